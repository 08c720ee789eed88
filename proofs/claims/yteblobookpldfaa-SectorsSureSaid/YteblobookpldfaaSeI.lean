/- A disk crashes; it is flushed. -/
import Derived.Test.YteblobookpldfaaSeH
namespace Go.Proofs.Yteblobookpldfaa.Se
open Go.RowKit Go.Shelf Go.Proofs

/-- Behind a crash. -/
def crashD (ks : List Bool) (d : Dk) : Dk := { settleD (fun i => ks.getD i false) d with down := true, fails := false, keep := [] }
theorem DAt.unkept {W : World} {F : Nat → Prop} {p : Nat} {sv lv kv : Value} {d : Dk} (h : DAt W F p sv lv kv d) : DAt (W.setCell ⟨p, 6, none⟩ (.slice none 0 0)) F p sv lv (.slice none 0 0) { d with keep := [] } := by
  obtain ⟨h1, h2⟩ := h.head 6 (.slice none 0 0)
  refine ⟨h.fp, h.fs, h.fl, fun k hk => (by cases hk), h2, ?_, ?_, World.ownsRow_nil _ _ _ _⟩
  · exact ownsRow_block h.su fun k hk => h1 k fun e => h.ns (by rw [hk, e])
  · exact ownsRow_block h.lo fun k hk => h1 k fun e => h.nl (by rw [hk, e])
set_option maxHeartbeats 2000000 in
theorem crash_ok {w : World} {F : Nat → Prop} {p : Nat} {sv lv kv : Value} {d : Dk} (h : DAt w F p sv lv kv d) (hc : chk d = 0) (hin : Inside d) (v : Value) (ks : List Bool) (hkr : KRow w v ks) (hkn : ∀ a n c, v = .slice (some a) n c → 0 < n → sv.ownBlock ≠ some a.block) :
    Calls Try.prog 16 #[.pointer (some ⟨p, 0, none⟩), v] w fun e w' => e = .returned (.int .i64 0) ∧ DAt w' F p sv (.slice none 0 0) (.slice none 0 0) (crashD ks d) ∧ OnlyF F w w' := by
  obtain ⟨o, c, rfl⟩ := hkr.form
  have hB : ∀ o1 : Obj, Below w.heap.size w (w.alloc o1) := fun o1 => (Below.refl _ _).alloc (Nat.le_refl _) o1
  have HC := Lib.hid (fun o1 : Obj => check_calls (h.keepB (hB o1)))
  rw [hc] at HC
  have HS := Lib.hid (settle_some (h.keepB (hB (.cells #[.slice o ks.length c] 32))) hin w.heap.size (.slice o ks.length c) ks (by rw [block_cell (alloc_new _ _ _ rfl)]; rfl) (fun hk => by have := h.su.lt _ hk; omega) (hkr.keepB (hB _)) hkn)
  have HO0 := Lib.hid (show OnlyF F w (w.alloc (.cells #[.slice o ks.length c] 32)) from OnlyF.of (hB _))
  clear h hkr hkn hB
  go_enter Try.func16, Try.ntmps16
  go_wp2_with (first
    | (go_at_call 32; refine (HC.out _).mono ?_; rintro e w' ⟨rfl, rfl⟩)
    | (go_at_call 35; refine HS.out.mono ?_; rintro e w2 ⟨rfl, hD, hO⟩; have c2 := hD.c2; have c4 := hD.c4; have c6 := hD.c6; have f2 := hD.fz 2; have f4 := hD.fz 4; have f6 := hD.fz 6; have HD := Lib.hid hD; have HO := Lib.hid hO; clear hD hO))
  go_ret
  have h1 := HD.out.putHead 2 (.bool true) { settleD (fun i => ks.getD i false) d with down := true } rfl rfl rfl rfl
  have h2 := h1.putHead 4 (.bool false) { settleD (fun i => ks.getD i false) d with down := true, fails := false } rfl rfl rfl rfl
  exact ⟨rfl, h2.unkept, (((HO0.out.trans HO.out).set h1.fp 2 _).set h1.fp 4 _).set h1.fp 6 _⟩
set_option maxHeartbeats 2000000 in
theorem crash_not {w : World} {F : Nat → Prop} {p : Nat} {sv lv kv : Value} {d : Dk} (h : DAt w F p sv lv kv d) (hc : chk d = 61) (o : Option Addr) (n c : Nat) :
    Calls Try.prog 16 #[.pointer (some ⟨p, 0, none⟩), .slice o n c] w fun e w' => e = .returned (.int .i64 61) ∧ Below w.heap.size w w' := by
  have hB : ∀ o1 : Obj, Below w.heap.size w (w.alloc o1) := fun o1 => (Below.refl _ _).alloc (Nat.le_refl _) o1
  have HC := Lib.hid (fun o1 : Obj => check_calls (h.keepB (hB o1)))
  rw [hc] at HC
  have HB := Lib.hid hB
  clear h hB
  go_enter Try.func16, Try.ntmps16
  go_wp2_with (go_at_call 32; refine (HC.out _).mono ?_; rintro e w' ⟨rfl, rfl⟩)
  go_ret
  exact ⟨rfl, HB.out _⟩
/-! ### Flushed -/
def flushD (d : Dk) : Dk := settleD (fun _ => true) d
set_option maxHeartbeats 2000000 in
theorem flush_ok {w : World} {F : Nat → Prop} {p : Nat} {sv lv kv : Value} {d : Dk} (h : DAt w F p sv lv kv d) (hc : chk d = 0) (hin : Inside d) (hs : Soon d) (hdue : isDue d = false) :
    Calls Try.prog 15 #[.pointer (some ⟨p, 0, none⟩)] w fun e w' => e = .returned (.int .i64 0) ∧ DAt w' F p sv (.slice none 0 0) kv (flushD (dueD d)) ∧ OnlyF F w w' := by
  have HC := Lib.hid (check_calls h)
  rw [hc] at HC
  have HU := Lib.hid (due_calls h hs)
  rw [hdue] at HU
  have hin2 : Inside (dueD d) := by unfold dueD; split <;> exact hin
  have HS := Lib.hid (fun (w1 : World) (h1 : DAt w1 F p sv lv kv (dueD d)) => settle_all h1 hin2)
  clear h
  go_enter Try.func15, Try.ntmps15
  go_wp2_with (first
    | (go_at_call 32; refine HC.out.mono ?_; rintro e w' ⟨rfl, rfl⟩)
    | (go_at_call 34; refine HU.out.mono ?_; rintro e w1 ⟨rfl, hD1, hO1⟩)
    | (go_at_call 35; refine (HS.out _ (by assumption)).mono ?_; rintro e w2 ⟨rfl, hD, hO⟩))
  go_ret
  exact ⟨rfl, hD, hO1.trans hO⟩
set_option maxHeartbeats 2000000 in
theorem flush_due {w : World} {F : Nat → Prop} {p : Nat} {sv lv kv : Value} {d : Dk} (h : DAt w F p sv lv kv d) (hc : chk d = 0) (hin : Inside d) (hs : Soon d) (hdue : isDue d = true) :
    Calls Try.prog 15 #[.pointer (some ⟨p, 0, none⟩)] w fun e w' => e = .returned (.int .i64 61) ∧ DAt w' F p sv (.slice none 0 0) (.slice none 0 0) (crashD d.keep (dueD d)) ∧ OnlyF F w w' := by
  have HC := Lib.hid (check_calls h)
  rw [hc] at HC
  have HU := Lib.hid (due_calls h hs)
  rw [hdue] at HU
  have hin2 : Inside (dueD d) := by unfold dueD; split <;> exact hin
  have hc2 : chk (dueD d) = 0 := by unfold dueD; split <;> exact hc
  have hk2 : (dueD d).keep = d.keep := by unfold dueD; split <;> rfl
  have HS := Lib.hid (fun (w1 : World) (h1 : DAt w1 F p sv lv kv (dueD d)) => crash_ok h1 hc2 hin2 kv d.keep (by rw [← hk2]; exact KRow.own h1.ke) (fun a n c e hn => by
    subst e
    obtain ⟨cur, hcur⟩ : ∃ cur, w1.heap[a.block]? = some (.cells cur 4 (0, 0)) := by
      rcases h1.ke.2 with ⟨e, _⟩ | ⟨g', cap, cur, e, _, hg, _⟩
      · cases e
      · obtain ⟨e1, _, _⟩ := Value.slice.inj e
        obtain rfl := Option.some.inj e1
        exact ⟨cur, hg⟩
    exact ownsRow_ne h1.su hcur (by decide)))
  clear h
  go_enter Try.func15, Try.ntmps15
  go_wp2_with (first
    | (go_at_call 32; refine HC.out.mono ?_; rintro e w' ⟨rfl, rfl⟩)
    | (go_at_call 34; refine HU.out.mono ?_; rintro e w1 ⟨rfl, hD1, hO1⟩; have c6 := hD1.c6)
    | (go_at_call 16; refine (HS.out _ (by assumption)).mono ?_; rintro e w2 ⟨rfl, hD, hO⟩))
  go_ret
  exact ⟨rfl, hD, hO1.trans hO⟩
end Go.Proofs.Yteblobookpldfaa.Se
