/- A sector written: loose. -/
import Derived.Test.YteblobookpldfaaSeJ
namespace Go.Proofs.Yteblobookpldfaa.Se
open Go.RowKit Go.Shelf Go.Proofs

theorem info66 : (Try.prog.info? 66).map (fun i => (i.zero, i.size, i.bytes)) = some (some (.agg #[.int .i64 0, .string ⟨#[]⟩]), 2, 24) := by kernel_rfl
def putD (n : Nat) (s : ByteArray) (d : Dk) : Dk := { d with loose := d.loose ++ [(n, s)] }
theorem DAt.grown {w1 w3 : World} {F : Nat → Prop} {p : Nat} {sv lv kv v' : Value} {d : Dk} {n : Nat} {s : ByteArray} {o : Obj} (h : DAt w1 F p sv lv kv d)
    (hown : w3.ownsRow 0 66 2 v' (d.loose.length + 1) (looseV d.loose ++ [.int .i64 (n : Int), .string s])) (hg : (w1.alloc o).grownBy w3 lv.ownBlock) (hob : v'.ownBlock = lv.ownBlock ∨ v'.ownBlock = some (w1.alloc o).heap.size) :
    w3.cell? ⟨p, 1, none⟩ = some lv ∧ w3.frozen? ⟨p, 1, none⟩ = false ∧ DAt (w3.setCell ⟨p, 1, none⟩ v') (grow F w1 w3) p sv v' kv (putD n s d) ∧ OnlyF F w1 (w3.setCell ⟨p, 1, none⟩ v') := by
  have hA : Below w1.heap.size w1 (w1.alloc o) := (Below.refl _ _).alloc (Nat.le_refl _) o
  have h2 := h.keepB hA
  have hk : ∀ k, k < (w1.alloc o).heap.size → lv.ownBlock ≠ some k → w3.heap[k]? = (w1.alloc o).heap[k]? := fun k hk hn => hg.block k hk (fun e => hn e.symm)
  have hp : w3.heap[p]? = (w1.alloc o).heap[p]? := hk p (lt_of_block h2.m) h2.nl
  have hm := hp.trans h2.m
  have hO : OnlyF F w1 w3 := ⟨hg.os, hg.tape, hg.output, Nat.le_trans (by simp) hg.size, fun b hb hn => (hk b (by simp; omega) (fun e => hn (h.fl b e))).trans (hA.block b hb)⟩
  have hv : v'.ownBlock ≠ some p := ownsRow_ne hown hm (by decide)
  have hset : ∀ k, k ≠ p → (w3.setCell ⟨p, 1, none⟩ v').heap[k]? = w3.heap[k]? := fun _ hk => Below.heap_setCell _ _ _ _ hk
  obtain ⟨ol, cl, hl⟩ := ownsRow_form h.lo
  have hlv : ∀ {g : Nat} {e : TypeId} {xs : List Value} {m : Nat} {v : Value} {sz : Nat}, (w1.alloc o).ownsRow 0 e sz v m xs → e ≠ 66 → v.ownBlock = some g → lv.ownBlock ≠ some g := by
    intro g e xs m v sz hr he hv
    rcases hr.2 with ⟨rfl, _⟩ | ⟨g', cap, cur, rfl, _, hgg, _⟩
    · cases hv
    · obtain rfl : g' = g := by simpa [Value.ownBlock] using hv
      exact ownsRow_ne h2.lo hgg he
  refine ⟨by rw [block_cell hm]; rfl, block_frozen hm 1, ⟨.inl h.fp, fun k hk => .inl (h.fs k hk), fun k hk' => ?_, fun k hk => .inl (h.fk k hk), ?_, ?_, ?_, ?_⟩, hO.set h.fp 1 v'⟩
  · rcases hob with e | e
    · exact .inl (h.fl k (by rw [← e]; exact hk'))
    · have e2 : k = (w1.alloc o).heap.size := by rw [hk'] at e; exact Option.some.inj e
      have := (hown.lt k hk').2
      rw [e2] at this ⊢
      exact .inr ⟨by simp, this⟩
  · exact block_set hm 1 v'
  · exact ownsRow_block h2.su fun k hk' => (hset k fun e => h2.ns (by rw [hk', e])).trans (hk k (h2.su.lt k hk').2 (hlv h2.su (by decide) hk'))
  · have : (putD n s d).loose.length = d.loose.length + 1 := by unfold putD; simp
    rw [this, show looseV (putD n s d).loose = looseV d.loose ++ [.int .i64 (n : Int), .string s] from looseV_snoc _ _]
    exact ownsRow_block hown fun k hk' => hset k fun e => hv (by rw [hk', e])
  · exact ownsRow_block h2.ke fun k hk' => (hset k fun e => h2.nk (by rw [hk', e])).trans (hk k (h2.ke.lt k hk').2 (hlv h2.ke (by decide) hk'))
theorem new_two (W : World) (x y : Value) (t : TypeId) : ∀ (j : Nat) (u : Value), [x, y][j]? = some u → (W.alloc (.cells #[x, y] t)).cell? ((⟨W.heap.size, 0, none⟩ : Addr).add j) = some u := by
  intro j u hj
  rw [add_zero, block_cell (alloc_new _ _ _ rfl)]
  simpa using hj
theorem one_two (n : Int) (s : ByteArray) : ∀ u ∈ [Value.int .i64 n, Value.string s], u.oneCell' = true := by
  intro u hu
  rcases List.mem_cons.1 hu with rfl | hu
  · rfl
  · obtain rfl := List.mem_singleton.1 hu
    rfl
set_option maxHeartbeats 4000000 in
theorem write_ok {w : World} {F : Nat → Prop} {p : Nat} {sv lv kv : Value} {d : Dk} (h : DAt w F p sv lv kv d) (hc : chk d = 0) (hs : Soon d) (hdue : isDue d = false) (n : Nat) (hn : n < d.sure.length) (s : ByteArray) (hss : s.size = 512) (hl : d.loose.length ≤ 1000000) :
    Calls Try.prog 14 #[.pointer (some ⟨p, 0, none⟩), .int .i64 (n : Int), .string s] w fun e w' => ∃ lv', e = .returned (.int .i64 0) ∧ DAt w' (grow F w w') p sv lv' kv (putD n s (dueD d)) ∧ OnlyF F w w' := by
  obtain ⟨i0, hi, hz0, hz1, hz2⟩ := info_parts info66
  obtain ⟨o, c, rfl⟩ := ownsRow_form h.su
  have c0 := h.c0
  have HC := Lib.hid (check_calls h)
  rw [hc] at HC
  have HU := Lib.hid (due_calls h hs)
  rw [hdue] at HU
  have hl2 : (dueD d).loose = d.loose := by unfold dueD; split <;> rfl
  have HL := Lib.hid hl2
  have n1 : ¬ (n : Int) < 0 := by omega
  have n2 : (n : Int) < (d.sure.length : Int) := by omega
  have n3 : (s.size : Int) = 512 := by omega
  clear h hl2
  go_enter Try.func14, Try.ntmps14
  go_wp2_with (first
    | (go_at_call 32; refine HC.out.mono ?_; rintro e w' ⟨rfl, rfl⟩)
    | (go_at_call 34; refine HU.out.mono ?_; rintro e w1 ⟨rfl, hD1, hO1⟩; have c1 := hD1.c1)
    | (at_builtin; refine wpList_append_own_at _ rfl (.tmp 36) (.tmp 40) 45 rfl 0 66 i0 (.agg #[.int .i64 0, .string ⟨#[]⟩]) 2 24 Try.underlying45 hi hz0 hz1 hz2 rfl (by decide) lv (dueD d).loose.length (looseV (dueD d).loose) rfl (hD1.lo.alloc _) ⟨w1.heap.size, 0, none⟩ 1 1 [.int .i64 (n : Int), .string s] rfl rfl (new_two w1 _ _ 66) (one_two _ _) (by rw [HL.out]; unfold maxLen; omega) (by rw [HL.out]; omega) (Nat.zero_le _) ?_
       intro v' w3 hown hgrow hnil hob
       obtain ⟨o3, c3, rfl⟩ := ownsRow_form hown
       obtain ⟨g1, g2, g3, g4⟩ := hD1.grown hown hgrow hob
       have G3 := Lib.hid g3
       have G4 := Lib.hid g4
       clear g3 g4 hown hgrow hnil hob))
  go_ret
  have hsz := hO1.size
  exact ⟨_, rfl, G3.out.wider (fun x hx => hx.imp (fun h => h) (fun ⟨a, b⟩ => ⟨by omega, by simpa using b⟩)), hO1.trans G4.out⟩
set_option maxHeartbeats 4000000 in
theorem write_down {w : World} {F : Nat → Prop} {p : Nat} {sv lv kv : Value} {d : Dk} (h : DAt w F p sv lv kv d) (hc : chk d = 61) (n : Int) (s : ByteArray) :
    Calls Try.prog 14 #[.pointer (some ⟨p, 0, none⟩), .int .i64 n, .string s] w fun e w' => e = .returned (.int .i64 61) ∧ w = w' := by
  have HC := Lib.hid (check_calls h)
  rw [hc] at HC
  go_enter Try.func14, Try.ntmps14
  go_wp2_with (go_at_call 32; refine HC.out.mono ?_; rintro e w' ⟨rfl, rfl⟩)
  go_ret
  exact ⟨rfl, rfl⟩
set_option maxHeartbeats 4000000 in
theorem write_arg {w : World} {F : Nat → Prop} {p : Nat} {sv lv kv : Value} {d : Dk} (h : DAt w F p sv lv kv d) (hc : chk d = 0) (n : Int) (s : ByteArray) (hb : n < 0 ∨ (d.sure.length : Int) ≤ n ∨ s.size ≠ 512) :
    Calls Try.prog 14 #[.pointer (some ⟨p, 0, none⟩), .int .i64 n, .string s] w fun e w' => e = .returned (.int .i64 2) ∧ w = w' := by
  obtain ⟨o, c, rfl⟩ := ownsRow_form h.su
  have c0 := h.c0
  have HC := Lib.hid (check_calls h)
  rw [hc] at HC
  clear h
  by_cases h1 : n < 0
  · go_enter Try.func14, Try.ntmps14
    go_wp2_with (go_at_call 32; refine HC.out.mono ?_; rintro e w' ⟨rfl, rfl⟩)
    go_ret
    exact ⟨rfl, rfl⟩
  · by_cases h2 : (d.sure.length : Int) ≤ n
    · go_enter Try.func14, Try.ntmps14
      go_wp2_with (go_at_call 32; refine HC.out.mono ?_; rintro e w' ⟨rfl, rfl⟩)
      go_ret
      exact ⟨rfl, rfl⟩
    · have h3 : ¬ (s.size : Int) = 512 := by omega
      have h4 : ((s.size : Int) == 512) = false := beq_eq_false_iff_ne.mpr h3
      have h5 : ((s.size : Int) != 512) = true := by rw [bne, h4]; rfl
      go_enter Try.func14, Try.ntmps14
      go_wp2_with (go_at_call 32; refine HC.out.mono ?_; rintro e w' ⟨rfl, rfl⟩)
      go_ret
      exact ⟨rfl, rfl⟩
end Go.Proofs.Yteblobookpldfaa.Se
