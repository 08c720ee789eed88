/- The document's map: its bits as bytes: plain. -/
import Derived.Test.YtidnkckfkgaooaaAl17
namespace Go.Proofs.Ytidnkckfkgaooaa.Al
open Go.RowKit Go.Shelf Go.Proofs Go.Proofs.Ytidnkckfkgaooaa.Ext Go.Proofs.Ytidnkckfkgaooaa.Pure Go.Proofs.YtidnkckfkgaooaaW.PrintWords Go.Proofs.YtidnkckfkgaooaaW.PrintLast Go.Proofs.YtidnkckfkgaooaaW.PrintMore

/-- The bytes behind so many bits. -/
def packT (f : Nat → Bool) (m : Nat) : Nat → ByteArray
  | 0 => zeroS m
  | i + 1 => if f i = true then withS (packT f m i) i true else packT f m i
theorem packT_succ (f : Nat → Bool) (m i : Nat) : packT f m (i + 1) = if f i = true then withS (packT f m i) i true else packT f m i := rfl
theorem packT_size (f : Nat → Bool) (m : Nat) : ∀ i, (packT f m i).size = m
  | 0 => zeroS_size m
  | i + 1 => by
    rw [packT_succ]
    split
    · rw [withS_size, packT_size f m i]
    · exact packT_size f m i
theorem byteN_zeroS (m q : Nat) : byteN (zeroS m) q = 0 := by
  unfold byteN zeroS
  by_cases h : q < m
  · simp [h]
  · simp [h]
theorem hasB_zeroS (m j : Nat) : hasB (zeroS m) j = false := by
  rw [hasB_eq, byteN_zeroS, Nat.zero_testBit, Bool.and_false]
theorem packT_bit (f : Nat → Bool) (m : Nat) : ∀ i, i ≤ 8 * m → ∀ j, hasB (packT f m i) j = (decide (j < i) && f j)
  | 0, _, j => by
    show hasB (zeroS m) j = _
    rw [hasB_zeroS]
    simp
  | i + 1, h, j => by
    have ih := packT_bit f m i (by omega)
    rw [packT_succ]
    by_cases e : j = i
    · subst e
      cases hf : f j with
      | true =>
        rw [if_pos rfl, withS_bit _ _ _ _ (by rw [packT_size]; omega), if_pos rfl]
        simp
      | false =>
        rw [if_neg (by decide), ih, hf]
        simp
    · have e2 : decide (j < i + 1) = decide (j < i) := by
        apply decide_eq_decide.2
        omega
      rw [e2]
      split
      · rw [withS_bit _ _ _ _ (by rw [packT_size]; omega), if_neg e, ih]
      · exact ih j
theorem packT_ok {s : ByteArray} {N : Nat} (h : OfOk s N) : packT (hasB s) ((N + 7) / 8) N = s := by
  apply text_ext
  · rw [packT_size, h.1]
  · intro i hi
    rw [packT_size] at hi
    rw [packT_bit _ _ _ (by omega)]
    by_cases hN : i < N
    · simp [hN]
    · rw [h.2 i (by omega) (by rw [h.1]; exact hi)]
      simp
theorem packT_no {s : ByteArray} {N : Nat} (h : ¬ OfOk s N) : packT (hasB s) ((N + 7) / 8) N ≠ s := by
  intro e
  apply h
  have hs := congrArg ByteArray.size e
  rw [packT_size] at hs
  refine ⟨hs.symm, fun i h1 _ => ?_⟩
  rw [← e, packT_bit _ _ _ (by omega), decide_eq_false (by omega)]
  rfl
theorem packT_congr {f k : Nat → Bool} (m : Nat) : ∀ i, (∀ j, j < i → f j = k j) → packT f m i = packT k m i
  | 0, _ => rfl
  | i + 1, h => by rw [packT_succ, packT_succ, h i (by omega), packT_congr m i (fun j hj => h j (by omega))]
theorem setN_add : ∀ b : Fin 256, ∀ r : Fin 8, b.val.testBit r.val = false → Pure.setN b.val r.val true = b.val + 2 ^ r.val := by decide +kernel
/-- The byte of a bit, with the bit's weight. -/
theorem pack_byte (f : Nat → Bool) (m i q : Nat) (hi : i < 8 * m) (hq : q < m) (hf : f i = true) : byteN (packT f m (i + 1)) q = if q = i / 8 then byteN (packT f m i) q + 2 ^ (i % 8) else byteN (packT f m i) q := by
  have h0 := packT_bit f m i (by omega) i
  rw [hasB_eq, packT_size, decide_eq_true hi, Bool.true_and, decide_eq_false (by omega), Bool.false_and] at h0
  rw [packT_succ, if_pos hf, withS_byte _ _ _ _ (by rw [packT_size]; exact hq)]
  split
  · rename_i e
    subst e
    exact setN_add ⟨_, byteN_lt _ _⟩ ⟨i % 8, by omega⟩ h0
  · rfl
theorem pack_byte0 (f : Nat → Bool) (m i : Nat) (hf : f i = false) : packT f m (i + 1) = packT f m i := by
  rw [packT_succ, hf, if_neg (by decide)]
theorem pack_lt (f : Nat → Bool) (m i : Nat) (hi : i < 8 * m) (hf : f i = true) : byteN (packT f m i) (i / 8) + 2 ^ (i % 8) < 256 := by
  have h := byteN_lt (packT f m (i + 1)) (i / 8)
  rw [pack_byte f m i (i / 8) hi (by omega) hf, if_pos rfl] at h
  exact h
/-- Bytes in memory. -/
def RowT (W : World) (B m : Nat) (t : ByteArray) : Prop := ∃ row : Array Value, W.heap[B]? = some (.cells row 5 (0, 0)) ∧ row.size = m ∧ ∀ j, j < m → row[j]? = some (.int .u8 (byteN t j : Int))
theorem RowT.cell {W : World} {B m : Nat} {t : ByteArray} (h : RowT W B m t) (j : Nat) (hj : j < m) : W.cell? ((⟨B, 0, none⟩ : Addr).add j) = some (.int .u8 (byteN t j : Int)) := by
  obtain ⟨row, h1, _, h3⟩ := h
  rw [add_zero, block_cell h1]
  exact h3 j hj
theorem RowT.frozen {W : World} {B m : Nat} {t : ByteArray} (h : RowT W B m t) (j : Nat) : W.frozen? ((⟨B, 0, none⟩ : Addr).add j) = false := by
  obtain ⟨row, h1, _, _⟩ := h
  rw [add_zero]
  exact block_frozen h1 j
theorem RowT.keepB {W W' : World} {B m : Nat} {t : ByteArray} (h : RowT W B m t) (hB : Below W.heap.size W W') : RowT W' B m t := by
  obtain ⟨row, h1, h2⟩ := h
  exact ⟨row, (hB.block _ (lt_of_block h1)).trans h1, h2⟩
theorem RowT.set {W : World} {B m : Nat} {t t' : ByteArray} (h : RowT W B m t) (q : Nat) (hq : q < m) (x : Nat) (hx : ∀ j, j < m → byteN t' j = if j = q then x else byteN t j) : RowT (W.setCell ((⟨B, 0, none⟩ : Addr).add q) (.int .u8 (x : Int))) B m t' := by
  obtain ⟨row, h1, h2, h3⟩ := h
  rw [add_zero]
  refine ⟨_, block_set h1 q _, by rw [Array.size_setIfInBounds]; exact h2, fun j hj => ?_⟩
  rw [hx j hj, Array.getElem?_setIfInBounds]
  by_cases e : j = q
  · subst e
    rw [if_pos rfl, if_pos rfl, if_pos (by rw [h2]; exact hq)]
  · rw [if_neg (fun h => e h.symm), if_neg e]
    exact h3 j hj
/-- Such a row as a text. -/
theorem RowT.text {W : World} {B m : Nat} {t : ByteArray} (h : RowT W B m t) (ht : t.size = m) : (convert 64 9 (.slice (some ⟨B, 0, none⟩) m m)).run Try.prog W = .ok (.string t) W := by
  have hl : t.data.toList.length = m := by rw [Array.length_toList]; exact ht
  have := run_convert_bytes_back (P := Try.prog) W 64 9 5 ⟨B, 0, none⟩ m t.data.toList Try.underlying64 Try.underlying5 Try.underlying9 (fun j hj => by
    have hj' : j < m := by rw [← hl]; exact hj
    rw [h.cell j hj']
    unfold byteN
    rw [List.getD_eq_getElem?_getD, List.getElem?_eq_getElem hj]
    rfl)
  rw [hl] at this
  exact this
end Go.Proofs.Ytidnkckfkgaooaa.Al
