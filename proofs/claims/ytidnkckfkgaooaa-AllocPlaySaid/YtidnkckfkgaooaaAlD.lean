/- Al17, Al18, Al19, Al20, put together. -/
import Derived.Test.YtidnkckfkgaooaaAl16
/- The document's map: a list of which blocks are in use: memory; New, Used. -/
namespace Go.Proofs.Ytidnkckfkgaooaa.Al
open Go.RowKit Go.Shelf Go.Proofs Go.Proofs.Ytidnkckfkgaooaa.Ext Go.Proofs.Ytidnkckfkgaooaa.Pure Go.Proofs.YtidnkckfkgaooaaW.PrintWords Go.Proofs.YtidnkckfkgaooaaW.PrintLast Go.Proofs.YtidnkckfkgaooaaW.PrintMore

/-- Bools in memory. -/
def bitsV (f : Nat → Bool) (N : Nat) : List Value := (List.range N).map (fun i => .bool (f i))
theorem bitsV_length (f : Nat → Bool) (N : Nat) : (bitsV f N).length = N := by unfold bitsV; simp
theorem bitsV_get (f : Nat → Bool) (N i : Nat) (h : i < N) : (bitsV f N)[i]? = some (.bool (f i)) := by
  unfold bitsV
  rw [List.getElem?_map, List.getElem?_range h]
  rfl
theorem bitsV_set (f : Nat → Bool) (N i : Nat) (b : Bool) : (bitsV f N).set i (.bool b) = bitsV (fun j => if j = i then b else f j) N := by
  apply List.ext_getElem?
  intro j
  rw [List.getElem?_set]
  by_cases hj : j < N
  · rw [bitsV_get f N j hj, bitsV_get (fun j => if j = i then b else f j) N j hj]
    by_cases e : i = j
    · subst e
      rw [if_pos rfl, if_pos (by rw [bitsV_length]; exact hj)]
      simp
    · rw [if_neg e]
      simp only [if_neg (show ¬ j = i from fun h => e h.symm)]
  · rw [List.getElem?_eq_none (l := bitsV f N) (by rw [bitsV_length]; omega), List.getElem?_eq_none (l := bitsV (fun j => if j = i then b else f j) N) (by rw [bitsV_length]; omega)]
    split
    · rw [if_neg (by rw [bitsV_length]; omega)]
    · rfl
theorem bitsV_congr {f k : Nat → Bool} {N : Nat} (h : ∀ i, i < N → f i = k i) : bitsV f N = bitsV k N := by
  unfold bitsV
  refine List.map_congr_left fun i hi => ?_
  rw [h i (List.mem_range.1 hi)]
theorem bitsV_one (f : Nat → Bool) (N : Nat) : ∀ u ∈ bitsV f N, u.oneCell' = true := by
  intro u hu
  obtain ⟨i, _, rfl⟩ := List.mem_map.1 hu
  rfl
theorem ownsRow_block {w w' : World} {base size n : Nat} {e : TypeId} {v : Value} {xs : List Value} (h : w.ownsRow base e size v n xs) (hb : ∀ k, v.ownBlock = some k → w'.heap[k]? = w.heap[k]?) : w'.ownsRow base e size v n xs := by
  refine ⟨h.1, ?_⟩
  rcases h.2 with h2 | ⟨g, cap, cur, rfl, h3, h4, h5⟩
  · exact .inl h2
  · exact .inr ⟨g, cap, cur, rfl, h3, (hb g rfl).trans h4, h5⟩
/-- The document's map in memory: a pointer to a slice of bools. -/
structure RAt (W : World) (base q g cap N : Nat) (f : Nat → Bool) : Prop where
  m : W.heap[q]? = some (.cells #[.slice (some ⟨g, 0, none⟩) N cap] 76 (0, 0))
  row : W.ownsRow base 4 1 (.slice (some ⟨g, 0, none⟩) N cap) N (bitsV f N)
  hq : base ≤ q
theorem RAt.hg {W : World} {base q g cap N : Nat} {f : Nat → Bool} (h : RAt W base q g cap N f) : base ≤ g ∧ g < W.heap.size := h.row.lt g rfl
theorem RAt.c0 {W : World} {base q g cap N : Nat} {f : Nat → Bool} (h : RAt W base q g cap N f) : W.cell? ⟨q, 0, none⟩ = some (.slice (some ⟨g, 0, none⟩) N cap) := by rw [block_cell h.m]; rfl
theorem RAt.bit {W : World} {base q g cap N : Nat} {f : Nat → Bool} (h : RAt W base q g cap N f) (i : Nat) (hi : i < N) : W.cell? ((⟨g, 0, none⟩ : Addr).add i) = some (.bool (f i)) := by
  rw [add_zero, h.row.cellAt i (by omega), bitsV_get f N i hi]
theorem RAt.keepB {W W' : World} {base q g cap N : Nat} {f : Nat → Bool} (h : RAt W base q g cap N f) (hB : Below W.heap.size W W') : RAt W' base q g cap N f :=
  ⟨(hB.block _ (lt_of_block h.m)).trans h.m, ownsRow_block h.row (fun k hk => hB.block k (h.row.lt k hk).2), h.hq⟩
theorem RAt.ne {W : World} {base q g cap N : Nat} {f : Nat → Bool} (h : RAt W base q g cap N f) : q ≠ g := by
  rintro rfl
  rcases h.row.2 with ⟨e, _⟩ | ⟨g', cap', cur, e, _, hg, _⟩
  · cases e
  · obtain ⟨e1, _, _⟩ := Value.slice.inj e
    obtain rfl : q = g' := by simpa using e1
    have := h.m.symm.trans hg
    simp at this
theorem RAt.set {W : World} {base q g cap N : Nat} {f : Nat → Bool} (h : RAt W base q g cap N f) (i : Nat) (b : Bool) :
    RAt (W.setCell ((⟨g, 0, none⟩ : Addr).add i) (.bool b)) base q g cap N (fun j => if j = i then b else f j) ∧ Below base W (W.setCell ((⟨g, 0, none⟩ : Addr).add i) (.bool b)) := by
  rw [add_zero]
  obtain ⟨h1, _⟩ := h.row.stored i (.bool b)
  rw [bitsV_set] at h1
  refine ⟨⟨?_, h1, h.hq⟩, (Below.refl _ _).setCell (p := ⟨g, i, none⟩) h.hg.1 _⟩
  rw [Below.heap_setCell _ _ _ _ (show q ≠ g from h.ne)]
  exact h.m
theorem RAt.congr {W : World} {base q g cap N : Nat} {f k : Nat → Bool} (h : RAt W base q g cap N f) (e : ∀ i, i < N → f i = k i) : RAt W base q g cap N k :=
  ⟨h.m, by rw [← bitsV_congr e]; exact h.row, h.hq⟩
theorem RAt.base' {W : World} {base b' q g cap N : Nat} {f : Nat → Bool} (h : RAt W base q g cap N f) (hb : b' ≤ base) : RAt W b' q g cap N f := by
  refine ⟨h.m, ⟨h.row.1, ?_⟩, Nat.le_trans hb h.hq⟩
  rcases h.row.2 with h2 | ⟨g', cap', cur, e, h3, h4⟩
  · exact .inl h2
  · exact .inr ⟨g', cap', cur, e, Nat.le_trans hb h3, h4⟩
theorem info4 : (Try.prog.info? 4).map (fun i => (i.zero, i.size, i.bytes)) = some (some (.bool false), 1, 1) := by kernel_rfl
/-- What New answers. -/
def REnd (w : World) (N : Nat) (f : Nat → Bool) (e : Ending) (w' : World) : Prop := ∃ q g cap, e = .returned (.tuple #[.pointer (some ⟨q, 0, none⟩), .int .i64 0]) ∧ RAt w' w.heap.size q g cap N f ∧ Below w.heap.size w w'
set_option maxHeartbeats 1000000 in
theorem refNew_none (n : Int) (w : World) (h : n < 1 ∨ 4096 < n) : Calls Try.prog 32 #[.int .i64 n] w (NNone 2 w) := by
  rcases h with h | h
  · go_enter Try.func32, Try.ntmps32
    go_wp2
    go_ret2
    exact ⟨rfl, Below.refl _ _⟩
  · have h1 : ¬ n < 1 := by omega
    go_enter Try.func32, Try.ntmps32
    go_wp2
    go_ret2
    exact ⟨rfl, Below.refl _ _⟩
theorem madeB (N : Nat) : (madeCells #[.bool false] N).toList = bitsV (fun _ => false) N := by
  rw [toList_madeCells_one]
  unfold bitsV
  rw [List.map_const', List.length_range]
theorem size_madeB (N : Nat) : (madeCells #[.bool false] N).size = N := by
  have h := congrArg List.length (madeB N)
  rw [Array.length_toList, bitsV_length] at h
  exact h
set_option maxHeartbeats 1000000 in
theorem refNew_some (n : Nat) (w : World) (h1 : 1 ≤ n) (h2 : n ≤ 4096) : Calls Try.prog 32 #[.int .i64 (n : Int)] w (REnd w n (fun _ => false)) := by
  obtain ⟨i0, hi, hz0, hz1, hz2⟩ := info_parts info4
  have hmk : ∀ W : World, (Instr.makeSlice 65 (.int .i64 (n : Int)) (.int .i64 (n : Int))).run Try.prog W = .ok (.slice (some ⟨W.heap.size, 0, none⟩) n n) (W.alloc (.cells (madeCells #[.bool false] n) 4)) := fun W => by
    have h := run_make (P := Try.prog) W 65 4 i0 (.bool false) Try.underlying65 hi hz0 .i64 .i64 n n (by omega) (by omega) (by rw [hz2]; omega) (by omega)
    rw [hz1, Nat.mul_one] at h
    simpa [Value.cells] using h
  clear hi hz0 hz1 hz2
  go_enter Try.func32, Try.ntmps32
  go_wp2
  go_ret2
  have B0 : Below w.heap.size w ((w.alloc (.cells (madeCells #[.bool false] n) 4)).alloc (.cells #[.slice (some ⟨w.heap.size, 0, none⟩) n n] 76)) := ((Below.refl _ _).alloc (Nat.le_refl _) _).alloc (by simp) _
  have R0 : (w.alloc (.cells (madeCells #[.bool false] n) 4)).ownsRow w.heap.size 4 1 (.slice (some ⟨w.heap.size, 0, none⟩) n n) n (bitsV (fun _ => false) n) := by
    have := World.ownsRow_lit (base := w.heap.size) (e := 4) (size := 1) w (madeCells #[.bool false] n) n (Nat.le_refl _) (by unfold maxLen; omega) (by rw [size_madeB]; omega)
    rw [madeB] at this
    exact this
  exact ⟨w.heap.size + 1, w.heap.size, n, rfl, ⟨alloc_new _ _ _ (by simp), R0.alloc _, by omega⟩, B0⟩
/-- How many are in use. -/
def cntF (f : Nat → Bool) : Nat → Nat
  | 0 => 0
  | n + 1 => cntF f n + if f n = true then 1 else 0
theorem cntF_le (f : Nat → Bool) : ∀ n, cntF f n ≤ n
  | 0 => Nat.le_refl _
  | n + 1 => by
    have := cntF_le f n
    show cntF f n + (if f n = true then 1 else 0) ≤ n + 1
    split <;> omega
theorem cntF_succ (f : Nat → Bool) (n : Nat) : cntF f (n + 1) = cntF f n + if f n = true then 1 else 0 := rfl
attribute [local irreducible] cntF
set_option maxHeartbeats 1000000 in
theorem refUsed_calls (w : World) (base q g cap N : Nat) (f : Nat → Bool) (h : RAt w base q g cap N f) (hN : N ≤ 4096) : Calls Try.prog 36 #[.pointer (some ⟨q, 0, none⟩)] w fun e w' => e = .returned (.int .i64 (cntF f N : Int)) ∧ w = w' := by
  have c0 := h.c0
  have HB := Lib.hid h.bit
  clear h
  generalize (⟨g, 0, none⟩ : Addr) = a at *
  go_enter Try.func36, Try.ntmps36
  go_wp2
  go_loopg [3, 4] N (fun k v3 v4 wr => ∃ i c : Nat, v4 = .int .i64 (i : Int) ∧ v3 = .int .i64 (c : Int) ∧ i ≤ N ∧ c ≤ i ∧ Aside0 (c = cntF f i) ∧ wr = w ∧ k = N - i)
  case atStart => exact ⟨0, 0, rfl, rfl, by omega, by omega, ⟨by unfold cntF; rfl⟩, rfl, rfl⟩
  case round =>
    obtain ⟨i, c, rfl, rfl, hi, hc, HC, rfl, rfl⟩ := hrel
    by_cases hil : i < N
    · have c1 : (i : Int) < (N : Int) := by omega
      have c3 : ((i : Int)).toNat = i := by omega
      have c4 : (0 : Int) ≤ (i : Int) := by omega
      have hb := HB.out i hil
      cases hf : f i with
      | true =>
        rw [hf] at hb
        have HS := Lib.hid (show c + 1 = cntF f (i + 1) by rw [cntF_succ, ← HC.out, if_pos hf])
        clear hf
        go_wp2
        go_roundg (N - (i + 1))
        case measure => omega
        case rel => exact ⟨i + 1, c + 1, by simp, by simp, by omega, by omega, ⟨HS.out⟩, rfl, rfl⟩
      | false =>
        rw [hf] at hb
        have HS := Lib.hid (show c = cntF f (i + 1) by rw [cntF_succ, ← HC.out, if_neg (by rw [hf]; decide)]; rfl)
        clear hf
        go_wp2
        go_roundg (N - (i + 1))
        case measure => omega
        case rel => exact ⟨i + 1, c, by simp, rfl, by omega, by omega, ⟨HS.out⟩, rfl, rfl⟩
    · have c1 : ¬ (i : Int) < (N : Int) := by omega
      have HE := Lib.hid (show cntF f N = c by rw [HC.out, show i = N from by omega])
      go_wp2
      go_ret
      exact ⟨by rw [HE.out]; rfl, rfl⟩
end Go.Proofs.Ytidnkckfkgaooaa.Al
/- The document's map: its bits as bytes: plain. -/
namespace Go.Proofs.Ytidnkckfkgaooaa.Al
open Go.RowKit Go.Shelf Go.Proofs Go.Proofs.Ytidnkckfkgaooaa.Ext Go.Proofs.Ytidnkckfkgaooaa.Pure Go.Proofs.YtidnkckfkgaooaaW.PrintWords Go.Proofs.YtidnkckfkgaooaaW.PrintLast Go.Proofs.YtidnkckfkgaooaaW.PrintMore

/-- The bytes behind so many bits. -/
def packT (f : Nat → Bool) (m : Nat) : Nat → ByteArray
  | 0 => zeroS m
  | i + 1 => if f i = true then withS (packT f m i) i true else packT f m i
theorem packT_succ (f : Nat → Bool) (m i : Nat) : packT f m (i + 1) = if f i = true then withS (packT f m i) i true else packT f m i := rfl
theorem packT_size (f : Nat → Bool) (m : Nat) : ∀ i, (packT f m i).size = m
  | 0 => zeroS_size m
  | i + 1 => by
    rw [packT_succ]
    split
    · rw [withS_size, packT_size f m i]
    · exact packT_size f m i
theorem byteN_zeroS (m q : Nat) : byteN (zeroS m) q = 0 := by
  unfold byteN zeroS
  by_cases h : q < m
  · simp [h]
  · simp [h]
theorem hasB_zeroS (m j : Nat) : hasB (zeroS m) j = false := by
  rw [hasB_eq, byteN_zeroS, Nat.zero_testBit, Bool.and_false]
theorem packT_bit (f : Nat → Bool) (m : Nat) : ∀ i, i ≤ 8 * m → ∀ j, hasB (packT f m i) j = (decide (j < i) && f j)
  | 0, _, j => by
    show hasB (zeroS m) j = _
    rw [hasB_zeroS]
    simp
  | i + 1, h, j => by
    have ih := packT_bit f m i (by omega)
    rw [packT_succ]
    by_cases e : j = i
    · subst e
      cases hf : f j with
      | true =>
        rw [if_pos rfl, withS_bit _ _ _ _ (by rw [packT_size]; omega), if_pos rfl]
        simp
      | false =>
        rw [if_neg (by decide), ih, hf]
        simp
    · have e2 : decide (j < i + 1) = decide (j < i) := by
        apply decide_eq_decide.2
        omega
      rw [e2]
      split
      · rw [withS_bit _ _ _ _ (by rw [packT_size]; omega), if_neg e, ih]
      · exact ih j
theorem packT_ok {s : ByteArray} {N : Nat} (h : OfOk s N) : packT (hasB s) ((N + 7) / 8) N = s := by
  apply text_ext
  · rw [packT_size, h.1]
  · intro i hi
    rw [packT_size] at hi
    rw [packT_bit _ _ _ (by omega)]
    by_cases hN : i < N
    · simp [hN]
    · rw [h.2 i (by omega) (by rw [h.1]; exact hi)]
      simp
theorem packT_no {s : ByteArray} {N : Nat} (h : ¬ OfOk s N) : packT (hasB s) ((N + 7) / 8) N ≠ s := by
  intro e
  apply h
  have hs := congrArg ByteArray.size e
  rw [packT_size] at hs
  refine ⟨hs.symm, fun i h1 _ => ?_⟩
  rw [← e, packT_bit _ _ _ (by omega), decide_eq_false (by omega)]
  rfl
theorem packT_congr {f k : Nat → Bool} (m : Nat) : ∀ i, (∀ j, j < i → f j = k j) → packT f m i = packT k m i
  | 0, _ => rfl
  | i + 1, h => by rw [packT_succ, packT_succ, h i (by omega), packT_congr m i (fun j hj => h j (by omega))]
theorem setN_add : ∀ b : Fin 256, ∀ r : Fin 8, b.val.testBit r.val = false → Pure.setN b.val r.val true = b.val + 2 ^ r.val := by decide +kernel
/-- The byte of a bit, with the bit's weight. -/
theorem pack_byte (f : Nat → Bool) (m i q : Nat) (hi : i < 8 * m) (hq : q < m) (hf : f i = true) : byteN (packT f m (i + 1)) q = if q = i / 8 then byteN (packT f m i) q + 2 ^ (i % 8) else byteN (packT f m i) q := by
  have h0 := packT_bit f m i (by omega) i
  rw [hasB_eq, packT_size, decide_eq_true hi, Bool.true_and, decide_eq_false (by omega), Bool.false_and] at h0
  rw [packT_succ, if_pos hf, withS_byte _ _ _ _ (by rw [packT_size]; exact hq)]
  split
  · rename_i e
    subst e
    exact setN_add ⟨_, byteN_lt _ _⟩ ⟨i % 8, by omega⟩ h0
  · rfl
theorem pack_byte0 (f : Nat → Bool) (m i : Nat) (hf : f i = false) : packT f m (i + 1) = packT f m i := by
  rw [packT_succ, hf, if_neg (by decide)]
theorem pack_lt (f : Nat → Bool) (m i : Nat) (hi : i < 8 * m) (hf : f i = true) : byteN (packT f m i) (i / 8) + 2 ^ (i % 8) < 256 := by
  have h := byteN_lt (packT f m (i + 1)) (i / 8)
  rw [pack_byte f m i (i / 8) hi (by omega) hf, if_pos rfl] at h
  exact h
/-- Bytes in memory. -/
def RowT (W : World) (B m : Nat) (t : ByteArray) : Prop := ∃ row : Array Value, W.heap[B]? = some (.cells row 5 (0, 0)) ∧ row.size = m ∧ ∀ j, j < m → row[j]? = some (.int .u8 (byteN t j : Int))
theorem RowT.cell {W : World} {B m : Nat} {t : ByteArray} (h : RowT W B m t) (j : Nat) (hj : j < m) : W.cell? ((⟨B, 0, none⟩ : Addr).add j) = some (.int .u8 (byteN t j : Int)) := by
  obtain ⟨row, h1, _, h3⟩ := h
  rw [add_zero, block_cell h1]
  exact h3 j hj
theorem RowT.frozen {W : World} {B m : Nat} {t : ByteArray} (h : RowT W B m t) (j : Nat) : W.frozen? ((⟨B, 0, none⟩ : Addr).add j) = false := by
  obtain ⟨row, h1, _, _⟩ := h
  rw [add_zero]
  exact block_frozen h1 j
theorem RowT.keepB {W W' : World} {B m : Nat} {t : ByteArray} (h : RowT W B m t) (hB : Below W.heap.size W W') : RowT W' B m t := by
  obtain ⟨row, h1, h2⟩ := h
  exact ⟨row, (hB.block _ (lt_of_block h1)).trans h1, h2⟩
theorem RowT.set {W : World} {B m : Nat} {t t' : ByteArray} (h : RowT W B m t) (q : Nat) (hq : q < m) (x : Nat) (hx : ∀ j, j < m → byteN t' j = if j = q then x else byteN t j) : RowT (W.setCell ((⟨B, 0, none⟩ : Addr).add q) (.int .u8 (x : Int))) B m t' := by
  obtain ⟨row, h1, h2, h3⟩ := h
  rw [add_zero]
  refine ⟨_, block_set h1 q _, by rw [Array.size_setIfInBounds]; exact h2, fun j hj => ?_⟩
  rw [hx j hj, Array.getElem?_setIfInBounds]
  by_cases e : j = q
  · subst e
    rw [if_pos rfl, if_pos rfl, if_pos (by rw [h2]; exact hq)]
  · rw [if_neg (fun h => e h.symm), if_neg e]
    exact h3 j hj
/-- Such a row as a text. -/
theorem RowT.text {W : World} {B m : Nat} {t : ByteArray} (h : RowT W B m t) (ht : t.size = m) : (convert 64 9 (.slice (some ⟨B, 0, none⟩) m m)).run Try.prog W = .ok (.string t) W := by
  have hl : t.data.toList.length = m := by rw [Array.length_toList]; exact ht
  have := run_convert_bytes_back (P := Try.prog) W 64 9 5 ⟨B, 0, none⟩ m t.data.toList Try.underlying64 Try.underlying5 Try.underlying9 (fun j hj => by
    have hj' : j < m := by rw [← hl]; exact hj
    rw [h.cell j hj']
    unfold byteN
    rw [List.getD_eq_getElem?_getD, List.getElem?_eq_getElem hj]
    rfl)
  rw [hl] at this
  exact this
end Go.Proofs.Ytidnkckfkgaooaa.Al
/- The document's map: its bits as bytes: the walk. -/
namespace Go.Proofs.Ytidnkckfkgaooaa.Al
open Go.RowKit Go.Shelf Go.Proofs Go.Proofs.Ytidnkckfkgaooaa.Ext Go.Proofs.Ytidnkckfkgaooaa.Pure Go.Proofs.YtidnkckfkgaooaaW.PrintWords Go.Proofs.YtidnkckfkgaooaaW.PrintLast Go.Proofs.YtidnkckfkgaooaaW.PrintMore
attribute [local irreducible] packT
set_option maxHeartbeats 2000000 in
theorem refBytes_calls (w : World) (base q g cap N : Nat) (f : Nat → Bool) (h : RAt w base q g cap N f) (hN : N ≤ 4096) : Calls Try.prog 39 #[.pointer (some ⟨q, 0, none⟩)] w fun e w' => e = .returned (.string (packT f ((N + 7) / 8) N)) ∧ Below w.heap.size w w' := by
  obtain ⟨i0, hi, hz0, hz1, hz2⟩ := info_parts Ext.info5
  obtain ⟨m, hm⟩ : ∃ m, m = (N + 7) / 8 := ⟨_, rfl⟩
  have hmI : ((N : Int) + 7) / 8 = (m : Int) := by omega
  have hmk : ∀ W : World, (Instr.makeSlice 64 (.int .i64 (((N : Int) + 7) / 8)) (.int .i64 (((N : Int) + 7) / 8))).run Try.prog W = .ok (.slice (some ⟨W.heap.size, 0, none⟩) m m) (W.alloc (.cells (madeCells #[.int .u8 0] m) 5)) := fun W => by
    rw [hmI]
    have h := run_make (P := Try.prog) W 64 5 i0 (.int .u8 0) Try.underlying64 hi hz0 .i64 .i64 m m (by omega) (by omega) (by rw [hz2]; omega) (by omega)
    rw [hz1, Nat.mul_one] at h
    simpa [Value.cells] using h
  have h8m : N ≤ 8 * m := by omega
  rw [← hm]
  have HM0 := Lib.hid hm
  clear hi hz0 hz1 hz2 hm hmI
  have c0 := h.c0
  have HR := Lib.hid h
  clear h
  obtain ⟨ag, hag⟩ : ∃ ag, ag = (⟨g, 0, none⟩ : Addr) := ⟨_, rfl⟩
  rw [← hag] at c0
  have HAG := Lib.hid hag
  clear hag
  go_enter Try.func39, Try.ntmps39
  go_wp2
  clear hmk
  have hT0 : RowT (w.alloc (.cells (madeCells #[.int .u8 0] m) 5)) w.heap.size m (packT f m 0) := by
    refine ⟨_, alloc_new _ _ _ rfl, ?_, fun j hj => ?_⟩
    · have h1 := congrArg List.length (toList_madeCells_one (.int .u8 0) m)
      rw [Array.length_toList, List.length_replicate] at h1
      exact h1
    · rw [made_get m j hj, show packT f m 0 = zeroS m by unfold packT; rfl, byteN_zeroS]
      rfl
  have hB0 : Below w.heap.size w (w.alloc (.cells (madeCells #[.int .u8 0] m) 5)) := (Below.refl _ _).alloc (Nat.le_refl _) _
  generalize w.alloc (.cells (madeCells #[.int .u8 0] m) 5) = w1 at *
  obtain ⟨ab, hab⟩ : ∃ ab, ab = (⟨w.heap.size, 0, none⟩ : Addr) := ⟨_, rfl⟩
  rw [← hab]
  have HAB := Lib.hid hab
  clear hab
  go_loopg [4, 5] N (fun k v4 v5 wr => ∃ i wt : Nat, v5 = .int .i64 (i : Int) ∧ v4 = .int .u8 (wt : Int) ∧ i ≤ N ∧ Aside0 (wt = 2 ^ (i % 8)) ∧ RowT wr w.heap.size m (packT f m i) ∧ Below w.heap.size w wr ∧ k = N - i)
  case atStart => exact ⟨0, 1, rfl, rfl, by omega, ⟨rfl⟩, hT0, hB0, rfl⟩
  case round =>
    clear hT0 hB0
    obtain ⟨i, wt, rfl, rfl, hi, HW, hT, hB, rfl⟩ := hrel
    have R := HR.out.keepB (hB.mono (Nat.le_refl _))
    have c0 := R.c0
    rw [← HAG.out] at c0
    by_cases hil : i < N
    · have c1 : (i : Int) < (N : Int) := by omega
      have c3 : ((i : Int)).toNat = i := by omega
      have c4 : (0 : Int) ≤ (i : Int) := by omega
      have hb := R.bit i hil
      rw [← HAG.out] at hb
      have hwl : wt ≤ 128 := by
        rw [HW.out]
        have : 2 ^ (i % 8) ≤ 2 ^ 7 := Nat.pow_le_pow_right (by omega) (by omega)
        exact this
      clear R
      cases hf : f i with
      | true =>
        rw [hf] at hb
        have hq : i / 8 < m := by omega
        have hc := hT.cell (i / 8) hq
        have hfz := hT.frozen (i / 8)
        rw [← HAB.out] at hc hfz
        have hlt := pack_lt f m i (by omega) hf
        rw [← HW.out] at hlt
        have hT2 := hT.set (t' := packT f m (i + 1)) (i / 8) hq (byteN (packT f m i) (i / 8) + wt) (fun j hj => by
          rw [pack_byte f m i j (by omega) hj hf]
          split
          · rename_i e
            rw [e, HW.out]
          · rfl)
        rw [← HAB.out] at hT2
        have hB2 : Below w.heap.size w (wr.setCell (ab.add (i / 8)) (.int .u8 ((byteN (packT f m i) (i / 8) + wt : Nat) : Int))) := hB.setCell (p := ab.add (i / 8)) (by rw [HAB.out, add_zero]; exact Nat.le_refl _) _
        have HT2 := Lib.hid hT2
        have HB2 := Lib.hid hB2
        clear hT hT2 hB2 hf
        generalize byteN (packT f m i) (i / 8) = b0 at *
        have k1 : IntKind.u8.wrap ((b0 : Int) + (wt : Int)) = ((b0 + wt : Nat) : Int) := by rw [IntKind.wrap_u8]; omega
        have k2 : ((i : Int) / 8).toNat = i / 8 := by omega
        have k3 : (0 : Int) ≤ (i : Int) / 8 := by omega
        have k4 : (i : Int) / 8 < (m : Int) := by omega
        by_cases h7 : i % 8 = 7
        · have e7 : ((i : Int) % 8 == 7) = true := beq_iff_eq.mpr (by omega)
          have HW2 := Lib.hid (show 1 = 2 ^ ((i + 1) % 8) by rw [show (i + 1) % 8 = 0 from by omega])
          go_wp2
          go_roundg (N - (i + 1))
          case measure => omega
          case rel => exact ⟨i + 1, 1, by simp, rfl, by omega, ⟨HW2.out⟩, HT2.out, HB2.out, rfl⟩
        · have e7 : ((i : Int) % 8 == 7) = false := beq_eq_false_iff_ne.mpr (by omega)
          have HW2 := Lib.hid (show 2 * wt = 2 ^ ((i + 1) % 8) by rw [HW.out, show (i + 1) % 8 = i % 8 + 1 from by omega, Nat.pow_succ, Nat.mul_comm])
          have hw2 : 2 * wt ≤ 128 := by
            rw [HW2.out]
            have : 2 ^ ((i + 1) % 8) ≤ 2 ^ 7 := Nat.pow_le_pow_right (by omega) (by omega)
            exact this
          have k5 : IntKind.u8.wrap ((wt : Int) * 2) = ((2 * wt : Nat) : Int) := by rw [IntKind.wrap_u8]; omega
          go_wp2
          go_roundg (N - (i + 1))
          case measure => omega
          case rel => exact ⟨i + 1, 2 * wt, by simp, by simp, by omega, ⟨HW2.out⟩, HT2.out, HB2.out, rfl⟩
      | false =>
        rw [hf] at hb
        rw [← pack_byte0 f m i hf] at hT
        clear hf
        by_cases h7 : i % 8 = 7
        · have e7 : ((i : Int) % 8 == 7) = true := beq_iff_eq.mpr (by omega)
          have HW2 := Lib.hid (show 1 = 2 ^ ((i + 1) % 8) by rw [show (i + 1) % 8 = 0 from by omega])
          go_wp2
          go_roundg (N - (i + 1))
          case measure => omega
          case rel => exact ⟨i + 1, 1, by simp, rfl, by omega, ⟨HW2.out⟩, hT, hB, rfl⟩
        · have e7 : ((i : Int) % 8 == 7) = false := beq_eq_false_iff_ne.mpr (by omega)
          have HW2 := Lib.hid (show 2 * wt = 2 ^ ((i + 1) % 8) by rw [HW.out, show (i + 1) % 8 = i % 8 + 1 from by omega, Nat.pow_succ, Nat.mul_comm])
          have hw2 : 2 * wt ≤ 128 := by
            rw [HW2.out]
            have : 2 ^ ((i + 1) % 8) ≤ 2 ^ 7 := Nat.pow_le_pow_right (by omega) (by omega)
            exact this
          have k5 : IntKind.u8.wrap ((wt : Int) * 2) = ((2 * wt : Nat) : Int) := by rw [IntKind.wrap_u8]; omega
          go_wp2
          go_roundg (N - (i + 1))
          case measure => omega
          case rel => exact ⟨i + 1, 2 * wt, by simp, by simp, by omega, ⟨HW2.out⟩, hT, hB, rfl⟩
    · have c1 : ¬ (i : Int) < (N : Int) := by omega
      have hcv := hT.text (packT_size f m i)
      rw [← HAB.out, show i = N from by omega] at hcv
      clear hT R
      go_wp2
      go_ret
      exact ⟨rfl, hB⟩
end Go.Proofs.Ytidnkckfkgaooaa.Al
/- The document's map of bits: the walk. -/
namespace Go.Proofs.Ytidnkckfkgaooaa.Al
open Go.RowKit Go.Shelf Go.Proofs Go.Proofs.Ytidnkckfkgaooaa.Ext Go.Proofs.Ytidnkckfkgaooaa.Pure Go.Proofs.YtidnkckfkgaooaaW.PrintWords Go.Proofs.YtidnkckfkgaooaaW.PrintLast Go.Proofs.YtidnkckfkgaooaaW.PrintMore
theorem str_beq (a b : ByteArray) : (a.toList == b.toList) = decide (a = b) := by
  rw [ByteArray.toList_eq, ByteArray.toList_eq, Bool.eq_iff_iff, beq_iff_eq, decide_eq_true_iff]
  constructor
  · intro h
    apply ByteArray.ext
    exact Array.toList_inj.1 h
  · intro h
    rw [h]
/-- What Of answers. -/
def ROEnd (s : ByteArray) (n : Nat) (w : World) (e : Ending) (w' : World) : Prop := (OfOk s n ∧ REnd w n (hasB s) e w') ∨ (¬ OfOk s n ∧ NNone 10 w e w')
theorem refOf_none (s : ByteArray) (n : Int) (w : World) (h : n < 1 ∨ 4096 < n) : Calls Try.prog 41 #[.string s, .int .i64 n] w (NNone 2 w) := by
  have HN := Lib.hid (refNew_none n w h)
  clear h
  go_enter Try.func41, Try.ntmps41
  go_wp2_with (go_at_call 32; refine HN.out.mono ?_; rintro e w' ⟨rfl, hB⟩)
  go_ret2
  exact ⟨rfl, hB⟩
theorem bit_of (s : ByteArray) (i c : Nat) (hi : i < 8 * s.size) (hc : c = byteN s (i / 8) / 2 ^ (i % 8)) : ((c : Int) % 2 == 1) = hasB s i := by
  rw [hasB_eq, decide_eq_true hi, Bool.true_and, Nat.testBit_eq_decide_div_mod_eq, ← hc, Bool.eq_iff_iff, beq_iff_eq, decide_eq_true_eq]
  omega
set_option maxRecDepth 100000 in
set_option maxHeartbeats 2000000 in
theorem refOf_some (s : ByteArray) (n : Nat) (w : World) (h1 : 1 ≤ n) (h2 : n ≤ 4096) (hs : s.size ≤ 1000000) : Calls Try.prog 41 #[.string s, .int .i64 (n : Int)] w (ROEnd s n w) := by
  have HN := Lib.hid (refNew_some n w h1 h2)
  go_enter Try.func41, Try.ntmps41
  go_wp2_with (go_at_call 32; refine HN.out.mono ?_; rintro e w1 ⟨q, g, cap, rfl, R, hB⟩)
  clear HN
  obtain ⟨ag, hag⟩ : ∃ ag, ag = (⟨g, 0, none⟩ : Addr) := ⟨_, rfl⟩
  have HAG := Lib.hid hag
  clear hag
  go_loopg [8, 9, 10] n (fun k v8 _ _ wr => ∃ i : Nat, v8 = .int .i64 (i : Int) ∧ i ≤ n ∧ RAt wr w.heap.size q g cap n (fun j => decide (j < i) && hasB s j) ∧ Below w.heap.size w wr ∧ k = n - i)
  case atStart => exact ⟨0, rfl, by omega, R.congr (fun i _ => by simp), hB, rfl⟩
  case round =>
    clear R hB
    obtain ⟨i, rfl, hi, R, hB, rfl⟩ := hrel
    by_cases hil : i < n
    · have c1 : (i : Int) < (n : Int) := by omega
      have c0 : (0 : Int) ≤ (i : Int) / 8 := by omega
      by_cases his : i / 8 < s.size
      · have c2 : (i : Int) / 8 < (s.size : Int) := by omega
        have hx := bt_at s ((i : Int) / 8)
        have hbt : bt s ((i : Int) / 8) = ((byteN s (i / 8) : Nat) : Int) := by rw [show (i : Int) / 8 = ((i / 8 : Nat) : Int) from by omega, bt_byteN]
        have hbl := byteN_lt s (i / 8)
        have HBT := Lib.hid hbt
        clear hbt
        go_wp2
        clear hx
        go_loopg [9, 10] (i % 8) (fun k v9 v10 wr2 => ∃ j c : Nat, v10 = .int .i64 (j : Int) ∧ v9 = .int .u8 (c : Int) ∧ j ≤ i % 8 ∧ c < 256 ∧ Aside0 (c = byteN s (i / 8) / 2 ^ j) ∧ wr2 = wr ∧ k = i % 8 - j)
        case atStart => exact ⟨0, byteN s (i / 8), rfl, by rw [HBT.out], by omega, hbl, ⟨by rw [Nat.pow_zero, Nat.div_one]⟩, rfl, rfl⟩
        case round =>
          obtain ⟨j, c, rfl, rfl, hj, hc, HC, rfl, rfl⟩ := hrel
          by_cases hjl : j < i % 8
          · have c5 : (j : Int) < (i : Int) % 8 := by omega
            have HC2 := Lib.hid (show c / 2 = byteN s (i / 8) / 2 ^ (j + 1) by rw [HC.out, Nat.div_div_eq_div_mul, Nat.pow_succ])
            go_wp2
            go_roundg (i % 8 - (j + 1))
            case measure => omega
            case rel => exact ⟨j + 1, c / 2, by simp, by simp, by omega, by omega, ⟨HC2.out⟩, rfl, rfl⟩
          · have c5 : ¬ (j : Int) < (i : Int) % 8 := by omega
            have e8 := bit_of s i c (by omega) (by rw [HC.out, show j = i % 8 from by omega])
            have hm := R.c0
            obtain ⟨h3, hB3⟩ := R.set i (hasB s i)
            have hfz := R.row.frozenAt i
            rw [← add_zero g i] at hfz
            have hold := R.bit i hil
            rw [← HAG.out] at hm hfz h3 hB3 hold
            have H3 := Lib.hid (h3.congr (k := fun j => decide (j < i + 1) && hasB s j) (fun j _ => by
              by_cases e : j = i
              · subst e
                simp
              · rw [if_neg e]
                have : decide (j < i + 1) = decide (j < i) := decide_eq_decide.2 (by omega)
                rw [this]))
            have HB3 := Lib.hid (hB.trans hB3)
            clear h3 hB3 R
            have c3 : ((i : Int)).toNat = i := by omega
            have c4 : (0 : Int) ≤ (i : Int) := by omega
            go_wp2
            go_roundg (n - (i + 1))
            case measure => omega
            case rel => exact ⟨i + 1, by simp, by omega, H3.out, HB3.out, rfl⟩
      · have c2 : ¬ (i : Int) / 8 < (s.size : Int) := by omega
        have R2 := R.congr (k := hasB s) (fun j hj => by
          by_cases e : j < i
          · simp [e]
          · rw [decide_eq_false e, Bool.false_and]
            rw [hasB_eq, decide_eq_false (by omega), Bool.false_and])
        clear R
        have HBY := Lib.hid (refBytes_calls wr _ q g cap n (hasB s) R2 h2)
        by_cases hok : OfOk s n
        · have HP := packT_ok hok
          rw [HP] at HBY
          clear HP
          go_wp2_with (go_at_call 39; refine HBY.out.mono ?_; rintro e w2 ⟨rfl, hB2⟩)
          go_ret2
          exact .inl ⟨hok, q, g, cap, rfl, R2.keepB hB2, hB.trans (hB2.mono hB.size)⟩
        · have HP := packT_no hok
          generalize packT (hasB s) ((n + 7) / 8) n = t at *
          have HPd : (t.toList == s.toList) = false := by rw [str_beq, decide_eq_false HP]
          go_wp2_with (go_at_call 39; refine HBY.out.mono ?_; rintro e w2 ⟨rfl, hB2⟩)
          go_ret2
          exact .inr ⟨hok, rfl, hB.trans (hB2.mono hB.size)⟩
    · have c1 : ¬ (i : Int) < (n : Int) := by omega
      have R2 := R.congr (k := hasB s) (fun j hj => by
        by_cases e : j < i
        · simp [e]
        · rw [decide_eq_false e, Bool.false_and]
          rw [hasB_eq, decide_eq_false (by omega), Bool.false_and])
      clear R
      have HBY := Lib.hid (refBytes_calls wr _ q g cap n (hasB s) R2 h2)
      by_cases hok : OfOk s n
      · have HP := packT_ok hok
        rw [HP] at HBY
        clear HP
        go_wp2_with (go_at_call 39; refine HBY.out.mono ?_; rintro e w2 ⟨rfl, hB2⟩)
        go_ret2
        exact .inl ⟨hok, q, g, cap, rfl, R2.keepB hB2, hB.trans (hB2.mono hB.size)⟩
      · have HP := packT_no hok
        generalize packT (hasB s) ((n + 7) / 8) n = t at *
        have HPd : (t.toList == s.toList) = false := by rw [str_beq, decide_eq_false HP]
        go_wp2_with (go_at_call 39; refine HBY.out.mono ?_; rintro e w2 ⟨rfl, hB2⟩)
        go_ret2
        exact .inr ⟨hok, rfl, hB.trans (hB2.mono hB.size)⟩
end Go.Proofs.Ytidnkckfkgaooaa.Al
