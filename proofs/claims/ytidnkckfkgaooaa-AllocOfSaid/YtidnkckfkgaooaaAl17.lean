/- The document's map: a list of which blocks are in use: memory; New, Used. -/
import Derived.Test.YtidnkckfkgaooaaAl16
namespace Go.Proofs.Ytidnkckfkgaooaa.Al
open Go.RowKit Go.Shelf Go.Proofs Go.Proofs.Ytidnkckfkgaooaa.Ext Go.Proofs.Ytidnkckfkgaooaa.Pure Go.Proofs.YtidnkckfkgaooaaW.PrintWords Go.Proofs.YtidnkckfkgaooaaW.PrintLast Go.Proofs.YtidnkckfkgaooaaW.PrintMore

/-- Bools in memory. -/
def bitsV (f : Nat → Bool) (N : Nat) : List Value := (List.range N).map (fun i => .bool (f i))
theorem bitsV_length (f : Nat → Bool) (N : Nat) : (bitsV f N).length = N := by unfold bitsV; simp
theorem bitsV_get (f : Nat → Bool) (N i : Nat) (h : i < N) : (bitsV f N)[i]? = some (.bool (f i)) := by
  unfold bitsV
  rw [List.getElem?_map, List.getElem?_range h]
  rfl
theorem bitsV_set (f : Nat → Bool) (N i : Nat) (b : Bool) : (bitsV f N).set i (.bool b) = bitsV (fun j => if j = i then b else f j) N := by
  apply List.ext_getElem?
  intro j
  rw [List.getElem?_set]
  by_cases hj : j < N
  · rw [bitsV_get f N j hj, bitsV_get (fun j => if j = i then b else f j) N j hj]
    by_cases e : i = j
    · subst e
      rw [if_pos rfl, if_pos (by rw [bitsV_length]; exact hj)]
      simp
    · rw [if_neg e]
      simp only [if_neg (show ¬ j = i from fun h => e h.symm)]
  · rw [List.getElem?_eq_none (l := bitsV f N) (by rw [bitsV_length]; omega), List.getElem?_eq_none (l := bitsV (fun j => if j = i then b else f j) N) (by rw [bitsV_length]; omega)]
    split
    · rw [if_neg (by rw [bitsV_length]; omega)]
    · rfl
theorem bitsV_congr {f k : Nat → Bool} {N : Nat} (h : ∀ i, i < N → f i = k i) : bitsV f N = bitsV k N := by
  unfold bitsV
  refine List.map_congr_left fun i hi => ?_
  rw [h i (List.mem_range.1 hi)]
theorem bitsV_one (f : Nat → Bool) (N : Nat) : ∀ u ∈ bitsV f N, u.oneCell' = true := by
  intro u hu
  obtain ⟨i, _, rfl⟩ := List.mem_map.1 hu
  rfl
theorem ownsRow_block {w w' : World} {base size n : Nat} {e : TypeId} {v : Value} {xs : List Value} (h : w.ownsRow base e size v n xs) (hb : ∀ k, v.ownBlock = some k → w'.heap[k]? = w.heap[k]?) : w'.ownsRow base e size v n xs := by
  refine ⟨h.1, ?_⟩
  rcases h.2 with h2 | ⟨g, cap, cur, rfl, h3, h4, h5⟩
  · exact .inl h2
  · exact .inr ⟨g, cap, cur, rfl, h3, (hb g rfl).trans h4, h5⟩
/-- The document's map in memory: a pointer to a slice of bools. -/
structure RAt (W : World) (base q g cap N : Nat) (f : Nat → Bool) : Prop where
  m : W.heap[q]? = some (.cells #[.slice (some ⟨g, 0, none⟩) N cap] 76 (0, 0))
  row : W.ownsRow base 4 1 (.slice (some ⟨g, 0, none⟩) N cap) N (bitsV f N)
  hq : base ≤ q
theorem RAt.hg {W : World} {base q g cap N : Nat} {f : Nat → Bool} (h : RAt W base q g cap N f) : base ≤ g ∧ g < W.heap.size := h.row.lt g rfl
theorem RAt.c0 {W : World} {base q g cap N : Nat} {f : Nat → Bool} (h : RAt W base q g cap N f) : W.cell? ⟨q, 0, none⟩ = some (.slice (some ⟨g, 0, none⟩) N cap) := by rw [block_cell h.m]; rfl
theorem RAt.bit {W : World} {base q g cap N : Nat} {f : Nat → Bool} (h : RAt W base q g cap N f) (i : Nat) (hi : i < N) : W.cell? ((⟨g, 0, none⟩ : Addr).add i) = some (.bool (f i)) := by
  rw [add_zero, h.row.cellAt i (by omega), bitsV_get f N i hi]
theorem RAt.keepB {W W' : World} {base q g cap N : Nat} {f : Nat → Bool} (h : RAt W base q g cap N f) (hB : Below W.heap.size W W') : RAt W' base q g cap N f :=
  ⟨(hB.block _ (lt_of_block h.m)).trans h.m, ownsRow_block h.row (fun k hk => hB.block k (h.row.lt k hk).2), h.hq⟩
theorem RAt.ne {W : World} {base q g cap N : Nat} {f : Nat → Bool} (h : RAt W base q g cap N f) : q ≠ g := by
  rintro rfl
  rcases h.row.2 with ⟨e, _⟩ | ⟨g', cap', cur, e, _, hg, _⟩
  · cases e
  · obtain ⟨e1, _, _⟩ := Value.slice.inj e
    obtain rfl : q = g' := by simpa using e1
    have := h.m.symm.trans hg
    simp at this
theorem RAt.set {W : World} {base q g cap N : Nat} {f : Nat → Bool} (h : RAt W base q g cap N f) (i : Nat) (b : Bool) :
    RAt (W.setCell ((⟨g, 0, none⟩ : Addr).add i) (.bool b)) base q g cap N (fun j => if j = i then b else f j) ∧ Below base W (W.setCell ((⟨g, 0, none⟩ : Addr).add i) (.bool b)) := by
  rw [add_zero]
  obtain ⟨h1, _⟩ := h.row.stored i (.bool b)
  rw [bitsV_set] at h1
  refine ⟨⟨?_, h1, h.hq⟩, (Below.refl _ _).setCell (p := ⟨g, i, none⟩) h.hg.1 _⟩
  rw [Below.heap_setCell _ _ _ _ (show q ≠ g from h.ne)]
  exact h.m
theorem RAt.congr {W : World} {base q g cap N : Nat} {f k : Nat → Bool} (h : RAt W base q g cap N f) (e : ∀ i, i < N → f i = k i) : RAt W base q g cap N k :=
  ⟨h.m, by rw [← bitsV_congr e]; exact h.row, h.hq⟩
theorem RAt.base' {W : World} {base b' q g cap N : Nat} {f : Nat → Bool} (h : RAt W base q g cap N f) (hb : b' ≤ base) : RAt W b' q g cap N f := by
  refine ⟨h.m, ⟨h.row.1, ?_⟩, Nat.le_trans hb h.hq⟩
  rcases h.row.2 with h2 | ⟨g', cap', cur, e, h3, h4⟩
  · exact .inl h2
  · exact .inr ⟨g', cap', cur, e, Nat.le_trans hb h3, h4⟩
theorem info4 : (Try.prog.info? 4).map (fun i => (i.zero, i.size, i.bytes)) = some (some (.bool false), 1, 1) := by kernel_rfl
/-- What New answers. -/
def REnd (w : World) (N : Nat) (f : Nat → Bool) (e : Ending) (w' : World) : Prop := ∃ q g cap, e = .returned (.tuple #[.pointer (some ⟨q, 0, none⟩), .int .i64 0]) ∧ RAt w' w.heap.size q g cap N f ∧ Below w.heap.size w w'
set_option maxHeartbeats 1000000 in
theorem refNew_none (n : Int) (w : World) (h : n < 1 ∨ 4096 < n) : Calls Try.prog 32 #[.int .i64 n] w (NNone 2 w) := by
  rcases h with h | h
  · go_enter Try.func32, Try.ntmps32
    go_wp2
    go_ret2
    exact ⟨rfl, Below.refl _ _⟩
  · have h1 : ¬ n < 1 := by omega
    go_enter Try.func32, Try.ntmps32
    go_wp2
    go_ret2
    exact ⟨rfl, Below.refl _ _⟩
theorem madeB (N : Nat) : (madeCells #[.bool false] N).toList = bitsV (fun _ => false) N := by
  rw [toList_madeCells_one]
  unfold bitsV
  rw [List.map_const', List.length_range]
theorem size_madeB (N : Nat) : (madeCells #[.bool false] N).size = N := by
  have h := congrArg List.length (madeB N)
  rw [Array.length_toList, bitsV_length] at h
  exact h
set_option maxHeartbeats 1000000 in
theorem refNew_some (n : Nat) (w : World) (h1 : 1 ≤ n) (h2 : n ≤ 4096) : Calls Try.prog 32 #[.int .i64 (n : Int)] w (REnd w n (fun _ => false)) := by
  obtain ⟨i0, hi, hz0, hz1, hz2⟩ := info_parts info4
  have hmk : ∀ W : World, (Instr.makeSlice 65 (.int .i64 (n : Int)) (.int .i64 (n : Int))).run Try.prog W = .ok (.slice (some ⟨W.heap.size, 0, none⟩) n n) (W.alloc (.cells (madeCells #[.bool false] n) 4)) := fun W => by
    have h := run_make (P := Try.prog) W 65 4 i0 (.bool false) Try.underlying65 hi hz0 .i64 .i64 n n (by omega) (by omega) (by rw [hz2]; omega) (by omega)
    rw [hz1, Nat.mul_one] at h
    simpa [Value.cells] using h
  clear hi hz0 hz1 hz2
  go_enter Try.func32, Try.ntmps32
  go_wp2
  go_ret2
  have B0 : Below w.heap.size w ((w.alloc (.cells (madeCells #[.bool false] n) 4)).alloc (.cells #[.slice (some ⟨w.heap.size, 0, none⟩) n n] 76)) := ((Below.refl _ _).alloc (Nat.le_refl _) _).alloc (by simp) _
  have R0 : (w.alloc (.cells (madeCells #[.bool false] n) 4)).ownsRow w.heap.size 4 1 (.slice (some ⟨w.heap.size, 0, none⟩) n n) n (bitsV (fun _ => false) n) := by
    have := World.ownsRow_lit (base := w.heap.size) (e := 4) (size := 1) w (madeCells #[.bool false] n) n (Nat.le_refl _) (by unfold maxLen; omega) (by rw [size_madeB]; omega)
    rw [madeB] at this
    exact this
  exact ⟨w.heap.size + 1, w.heap.size, n, rfl, ⟨alloc_new _ _ _ (by simp), R0.alloc _, by omega⟩, B0⟩
/-- How many are in use. -/
def cntF (f : Nat → Bool) : Nat → Nat
  | 0 => 0
  | n + 1 => cntF f n + if f n = true then 1 else 0
theorem cntF_le (f : Nat → Bool) : ∀ n, cntF f n ≤ n
  | 0 => Nat.le_refl _
  | n + 1 => by
    have := cntF_le f n
    show cntF f n + (if f n = true then 1 else 0) ≤ n + 1
    split <;> omega
theorem cntF_succ (f : Nat → Bool) (n : Nat) : cntF f (n + 1) = cntF f n + if f n = true then 1 else 0 := rfl
attribute [local irreducible] cntF
set_option maxHeartbeats 1000000 in
theorem refUsed_calls (w : World) (base q g cap N : Nat) (f : Nat → Bool) (h : RAt w base q g cap N f) (hN : N ≤ 4096) : Calls Try.prog 36 #[.pointer (some ⟨q, 0, none⟩)] w fun e w' => e = .returned (.int .i64 (cntF f N : Int)) ∧ w = w' := by
  have c0 := h.c0
  have HB := Lib.hid h.bit
  clear h
  generalize (⟨g, 0, none⟩ : Addr) = a at *
  go_enter Try.func36, Try.ntmps36
  go_wp2
  go_loopg [3, 4] N (fun k v3 v4 wr => ∃ i c : Nat, v4 = .int .i64 (i : Int) ∧ v3 = .int .i64 (c : Int) ∧ i ≤ N ∧ c ≤ i ∧ Aside0 (c = cntF f i) ∧ wr = w ∧ k = N - i)
  case atStart => exact ⟨0, 0, rfl, rfl, by omega, by omega, ⟨by unfold cntF; rfl⟩, rfl, rfl⟩
  case round =>
    obtain ⟨i, c, rfl, rfl, hi, hc, HC, rfl, rfl⟩ := hrel
    by_cases hil : i < N
    · have c1 : (i : Int) < (N : Int) := by omega
      have c3 : ((i : Int)).toNat = i := by omega
      have c4 : (0 : Int) ≤ (i : Int) := by omega
      have hb := HB.out i hil
      cases hf : f i with
      | true =>
        rw [hf] at hb
        have HS := Lib.hid (show c + 1 = cntF f (i + 1) by rw [cntF_succ, ← HC.out, if_pos hf])
        clear hf
        go_wp2
        go_roundg (N - (i + 1))
        case measure => omega
        case rel => exact ⟨i + 1, c + 1, by simp, by simp, by omega, by omega, ⟨HS.out⟩, rfl, rfl⟩
      | false =>
        rw [hf] at hb
        have HS := Lib.hid (show c = cntF f (i + 1) by rw [cntF_succ, ← HC.out, if_neg (by rw [hf]; decide)]; rfl)
        clear hf
        go_wp2
        go_roundg (N - (i + 1))
        case measure => omega
        case rel => exact ⟨i + 1, c, by simp, rfl, by omega, by omega, ⟨HS.out⟩, rfl, rfl⟩
    · have c1 : ¬ (i : Int) < (N : Int) := by omega
      have HE := Lib.hid (show cntF f N = c by rw [HC.out, show i = N from by omega])
      go_wp2
      go_ret
      exact ⟨by rw [HE.out]; rfl, rfl⟩
end Go.Proofs.Ytidnkckfkgaooaa.Al
