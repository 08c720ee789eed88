/- A write whose failure is due; what a disk that is down answers. -/
import Derived.Test.YteblobookpldfaaSeN
namespace Go.Proofs.Yteblobookpldfaa.Se
open Go.RowKit Go.Shelf Go.Proofs

theorem DAt.kv_ne {w1 : World} {F : Nat → Prop} {p : Nat} {sv lv kv : Value} {d : Dk} (h1 : DAt w1 F p sv lv kv d) : ∀ a n c, kv = .slice (some a) n c → 0 < n → sv.ownBlock ≠ some a.block := fun a n c e hn => by
  subst e
  obtain ⟨cur, hcur⟩ : ∃ cur, w1.heap[a.block]? = some (.cells cur 4 (0, 0)) := by
    rcases h1.ke.2 with ⟨e, _⟩ | ⟨g', cap, cur, e, _, hg, _⟩
    · cases e
    · obtain ⟨e1, _, _⟩ := Value.slice.inj e
      obtain rfl := Option.some.inj e1
      exact ⟨cur, hg⟩
  exact ownsRow_ne h1.su hcur (by decide)
theorem inside_put {d : Dk} (h : Inside d) {n : Nat} (hn : n < d.sure.length) (s : ByteArray) : Inside (putD n s d) := fun x hx => by
  rcases List.mem_append.1 hx with hx | hx
  · exact h x hx
  · obtain rfl := List.mem_singleton.1 hx
    exact hn
theorem inside_due {d : Dk} (h : Inside d) : Inside (dueD d) := by unfold dueD; split <;> exact h
set_option maxHeartbeats 4000000 in
theorem write_due {w : World} {F : Nat → Prop} {p : Nat} {sv lv kv : Value} {d : Dk} (h : DAt w F p sv lv kv d) (hc : chk d = 0) (hin : Inside d) (hs : Soon d) (hdue : isDue d = true) (n : Nat) (hn : n < d.sure.length) (s : ByteArray) (hss : s.size = 512) (hl : d.loose.length ≤ 1000000) :
    Calls Try.prog 14 #[.pointer (some ⟨p, 0, none⟩), .int .i64 (n : Int), .string s] w fun e w' => e = .returned (.int .i64 61) ∧ DAt w' (grow F w w') p sv (.slice none 0 0) (.slice none 0 0) (crashD d.keep (putD n s (dueD d))) ∧ OnlyF F w w' := by
  obtain ⟨i0, hi, hz0, hz1, hz2⟩ := info_parts info66
  obtain ⟨o, c, rfl⟩ := ownsRow_form h.su
  obtain ⟨ok, ck, rfl⟩ := ownsRow_form h.ke
  have c0 := h.c0
  have HC := Lib.hid (check_calls h)
  rw [hc] at HC
  have HU := Lib.hid (due_calls h hs)
  rw [hdue] at HU
  have hl2 : (dueD d).loose = d.loose := by unfold dueD; split <;> rfl
  have HL := Lib.hid hl2
  have hc2 : chk (putD n s (dueD d)) = 0 := by unfold dueD; split <;> exact hc
  have hk2 : (putD n s (dueD d)).keep = d.keep := by unfold dueD; split <;> rfl
  have hin2 : Inside (putD n s (dueD d)) := inside_put (inside_due hin) (by unfold dueD; split <;> exact hn) s
  have HS := Lib.hid (fun (w1 : World) (F' : Nat → Prop) (lv' : Value) (h1 : DAt w1 F' p (.slice o d.sure.length c) lv' (.slice ok d.keep.length ck) (putD n s (dueD d))) =>
    crash_ok h1 hc2 hin2 (.slice ok d.keep.length ck) d.keep (by have q := h1.ke; rw [hk2] at q; exact KRow.own q) h1.kv_ne)
  have n1 : ¬ (n : Int) < 0 := by omega
  have n2 : (n : Int) < (d.sure.length : Int) := by omega
  have n3 : (s.size : Int) = 512 := by omega
  clear h hl2 hc2 hk2 hin2
  go_enter Try.func14, Try.ntmps14
  go_wp2_with (first
    | (go_at_call 32; refine HC.out.mono ?_; rintro e w' ⟨rfl, rfl⟩)
    | (go_at_call 34; refine HU.out.mono ?_; rintro e w1 ⟨rfl, hD1, hO1⟩; have c1 := hD1.c1)
    | (at_builtin; refine wpList_append_own_at _ rfl (.tmp 36) (.tmp 40) 45 rfl 0 66 i0 (.agg #[.int .i64 0, .string ⟨#[]⟩]) 2 24 Try.underlying45 hi hz0 hz1 hz2 rfl (by decide) lv (dueD d).loose.length (looseV (dueD d).loose) rfl (hD1.lo.alloc _) ⟨w1.heap.size, 0, none⟩ 1 1 [.int .i64 (n : Int), .string s] rfl rfl (new_two w1 _ _ 66) (one_two _ _) (by rw [HL.out]; unfold maxLen; omega) (by rw [HL.out]; omega) (Nat.zero_le _) ?_
       intro v' w3 hown hgrow hnil hob
       obtain ⟨o3, c3, rfl⟩ := ownsRow_form hown
       obtain ⟨g1, g2, g3, g4⟩ := hD1.grown hown hgrow hob
       have c6 := g3.c6
       have G3 := Lib.hid g3
       have G4 := Lib.hid g4
       clear g3 g4 hown hgrow hnil hob)
    | (go_at_call 16; refine (HS.out _ _ _ G3.out).mono ?_; rintro e w4 ⟨rfl, hD4, hO4⟩))
  go_ret
  have hsz := hO1.size
  have hsz2 := hO4.size
  refine ⟨rfl, hD4.wider (fun x hx => hx.imp (fun h => h) (fun ⟨a, b⟩ => ⟨by omega, by simp at hsz2; omega⟩)), ?_⟩
  refine ⟨hO4.os.trans (hO1.trans G4.out).os, hO4.tape.trans (hO1.trans G4.out).tape, hO4.output.trans (hO1.trans G4.out).output, Nat.le_trans (hO1.trans G4.out).size hO4.size, fun b hb hn => ?_⟩
  rw [hO4.block b (Nat.lt_of_lt_of_le hb (hO1.trans G4.out).size) (fun hx => hx.elim hn (fun ⟨a, _⟩ => by omega))]
  exact (hO1.trans G4.out).block b hb hn
end Go.Proofs.Yteblobookpldfaa.Se
