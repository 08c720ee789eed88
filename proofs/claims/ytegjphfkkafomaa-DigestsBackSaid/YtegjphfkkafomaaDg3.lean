/- The digits' numbers: plain. -/
import Derived.Test.YtegjphfkkafomaaDg2
namespace Go.Proofs.Ytegjphfkkafomaa.Dg
open Go.RowKit Go.Proofs Go.Proofs.YtegjphfkkafomaaW.PrintWords Go.Proofs.YtegjphfkkafomaaW.PrintLast Go.Proofs.YtegjphfkkafomaaW.PrintMore

/-- The number of the digit at a place; 0, if it is none. -/
def hvN (r : List UInt8) (k : Nat) : Nat := (hv (r.getD k 0)).toNat
theorem hvN_lt (r : List UInt8) (k : Nat) : hvN r k < 16 := by
  unfold hvN
  have := hv_range (r.getD k 0)
  omega
/-- What stands behind so many digits. -/
def partL (r : List UInt8) (k : Nat) : List Nat := (List.range 32).map fun j => if 2 * j + 1 < k then 16 * hvN r (2 * j) + hvN r (2 * j + 1) else if 2 * j < k then hvN r (2 * j) else 0
theorem partL_length (r : List UInt8) (k : Nat) : (partL r k).length = 32 := by unfold partL; simp
theorem partL_get (r : List UInt8) (k j : Nat) (h : j < 32) : (partL r k)[j]? = some (if 2 * j + 1 < k then 16 * hvN r (2 * j) + hvN r (2 * j + 1) else if 2 * j < k then hvN r (2 * j) else 0) := by
  unfold partL
  rw [List.getElem?_map, List.getElem?_range h]
  rfl
theorem partL_zero (r : List UInt8) : partL r 0 = zeroD := by
  apply List.ext_getElem?
  intro j
  by_cases h : j < 32
  · rw [partL_get r 0 j h, if_neg (by omega), if_neg (by omega)]
    unfold zeroD
    rw [List.getElem?_replicate, if_pos h]
  · rw [List.getElem?_eq_none (by rw [partL_length]; omega), List.getElem?_eq_none (by simp [zeroD]; omega)]
theorem partL_fB (r : List UInt8) (k : Nat) (h : k < 64) : fB (partL r k) (k / 2) = if k % 2 = 1 then hvN r (k - 1) else 0 := by
  unfold fB
  rw [List.getD_eq_getElem?_getD, partL_get r k (k / 2) (by omega), if_neg (by omega)]
  by_cases h1 : k % 2 = 1
  · rw [if_pos (by omega), if_pos h1, show 2 * (k / 2) = k - 1 from by omega]
    rfl
  · rw [if_neg (by omega), if_neg h1]
    rfl
theorem partL_succ (r : List UInt8) (k : Nat) (h : k < 64) : partL r (k + 1) = (partL r k).set (k / 2) (fB (partL r k) (k / 2) * 16 + hvN r k) := by
  apply List.ext_getElem?
  intro j
  by_cases hj : j < 32
  · rw [partL_get r (k + 1) j hj]
    by_cases e : j = k / 2
    · subst e
      rw [List.getElem?_set_self (by rw [partL_length]; exact hj), partL_fB r k h]
      congr 1
      by_cases h1 : k % 2 = 1
      · rw [if_pos (by omega), if_pos h1, show 2 * (k / 2) = k - 1 from by omega, show k - 1 + 1 = k from by omega]
        omega
      · rw [if_neg (by omega), if_pos (by omega), if_neg h1, show 2 * (k / 2) = k from by omega]
        omega
    · rw [List.getElem?_set_ne (by omega), partL_get r k j hj]
      congr 1
      by_cases h1 : 2 * j + 1 < k
      · rw [if_pos h1, if_pos (by omega)]
      · rw [if_neg h1, if_neg (by omega)]
        by_cases h2 : 2 * j < k
        · rw [if_pos h2, if_pos (by omega)]
        · rw [if_neg h2, if_neg (by omega)]
  · rw [List.getElem?_eq_none (by rw [partL_length]; omega), List.getElem?_eq_none (by rw [List.length_set, partL_length]; omega)]
theorem partL_lt (r : List UInt8) (k : Nat) : ∀ x ∈ partL r k, x < 256 := by
  intro x hx
  unfold partL at hx
  obtain ⟨j, _, rfl⟩ := List.mem_map.1 hx
  have h1 := hvN_lt r (2 * j)
  have h2 := hvN_lt r (2 * j + 1)
  split
  · omega
  · split <;> omega
theorem hexL_get : ∀ (l : List Nat) (j : Nat), j < l.length → (hexL l)[2 * j]? = some (hx (fB l j / 16)) ∧ (hexL l)[2 * j + 1]? = some (hx (fB l j % 16))
  | [], j, h => by simp at h
  | c :: r, 0, _ => ⟨rfl, rfl⟩
  | c :: r, j + 1, h => by
    have := hexL_get r j (by simpa using h)
    exact this
/-- Digits, read and told again. -/
theorem hexL_part (r : List UInt8) (hr : r.length = 64) (h : ∀ k, k < 64 → 0 ≤ hv (r.getD k 0)) : hexL (partL r 64) = r := by
  apply List.ext_getElem?
  intro k
  by_cases hk : k < 64
  · have hj : k / 2 < (partL r 64).length := by rw [partL_length]; omega
    obtain ⟨h1, h2⟩ := hexL_get (partL r 64) (k / 2) hj
    have hf : fB (partL r 64) (k / 2) = 16 * hvN r (2 * (k / 2)) + hvN r (2 * (k / 2) + 1) := by
      unfold fB
      rw [List.getD_eq_getElem?_getD, partL_get r 64 (k / 2) (by omega), if_pos (by omega)]
      rfl
    have l1 := hvN_lt r (2 * (k / 2))
    have l2 := hvN_lt r (2 * (k / 2) + 1)
    have hk' : r[k]? = some (r.getD k 0) := by
      rw [List.getD_eq_getElem?_getD, List.getElem?_eq_getElem (by omega)]
      rfl
    rw [hk']
    by_cases e : k % 2 = 0
    · have e1 : 2 * (k / 2) = k := by omega
      rw [hf, show (16 * hvN r (2 * (k / 2)) + hvN r (2 * (k / 2) + 1)) / 16 = hvN r (2 * (k / 2)) from by omega, e1] at h1
      rw [h1]
      exact congrArg some (hx_hv _ (h k hk))
    · have e1 : 2 * (k / 2) + 1 = k := by omega
      rw [hf, show (16 * hvN r (2 * (k / 2)) + hvN r (2 * (k / 2) + 1)) % 16 = hvN r (2 * (k / 2) + 1) from by omega, e1] at h2
      rw [h2]
      exact congrArg some (hx_hv _ (h k hk))
  · rw [List.getElem?_eq_none (by rw [hexL_length, partL_length]; omega), List.getElem?_eq_none (by omega)]
/-- The digits of bytes are digits, and say them. -/
theorem hexL_digits (l : List Nat) (hl : l.length = 32) (hb : ∀ x ∈ l, x < 256) (k : Nat) (hk : k < 64) : 0 ≤ hv ((hexL l).getD k 0) ∧ hvN (hexL l) k = if k % 2 = 0 then fB l (k / 2) / 16 else fB l (k / 2) % 16 := by
  obtain ⟨h1, h2⟩ := hexL_get l (k / 2) (by omega)
  have hf := fB_lt l hb (k / 2)
  unfold hvN
  by_cases e : k % 2 = 0
  · rw [show 2 * (k / 2) = k from by omega] at h1
    rw [List.getD_eq_getElem?_getD, h1, if_pos e, Option.getD_some, hv_of_hx _ (by omega)]
    omega
  · rw [show 2 * (k / 2) + 1 = k from by omega] at h2
    rw [List.getD_eq_getElem?_getD, h2, if_neg e, Option.getD_some, hv_of_hx _ (by omega)]
    omega
theorem part_hexL (l : List Nat) (hl : l.length = 32) (hb : ∀ x ∈ l, x < 256) : partL (hexL l) 64 = l := by
  apply List.ext_getElem?
  intro j
  by_cases hj : j < 32
  · have a := (hexL_digits l hl hb (2 * j) (by omega)).2
    have b := (hexL_digits l hl hb (2 * j + 1) (by omega)).2
    rw [if_pos (by omega), show 2 * j / 2 = j from by omega] at a
    rw [if_neg (by omega), show (2 * j + 1) / 2 = j from by omega] at b
    rw [partL_get _ 64 j hj, if_pos (by omega), a, b]
    have : l[j]? = some (fB l j) := by
      unfold fB
      rw [List.getD_eq_getElem?_getD, List.getElem?_eq_getElem (by omega)]
      rfl
    rw [this]
    congr 1
    omega
  · rw [List.getElem?_eq_none (by rw [partL_length]; omega), List.getElem?_eq_none (by omega)]
/-- A text is a digest's. -/
def IsText (s : ByteArray) (l : List Nat) : Prop := l.length = 32 ∧ (∀ x ∈ l, x < 256) ∧ s = textS l
theorem IsText.split {s : ByteArray} {l : List Nat} (h : IsText s l) : s = preS ++ ⟨(hexL l).toArray⟩ := h.2.2
theorem IsText.size {s : ByteArray} {l : List Nat} (h : IsText s l) : s.size = 71 := by rw [h.2.2, textS_size, h.1]
theorem IsText.one {s : ByteArray} {l m : List Nat} (h : IsText s l) (k : IsText s m) : l = m := by
  have e := h.split.symm.trans k.split
  have e2 : hexL l = hexL m := by
    have := congrArg ByteArray.data e
    simp only [ByteArray.data_append] at this
    have := congrArg Array.toList this
    simpa using this
  rw [← part_hexL l h.1 h.2.1, e2, part_hexL m k.1 k.2.1]
/-- A text of digits behind the head is a digest's. -/
theorem isText_of (r : ByteArray) (hr : r.size = 64) (h : ∀ k, k < 64 → 0 ≤ hv (r.data.toList.getD k 0)) : IsText (preS ++ r) (partL r.data.toList 64) := by
  refine ⟨partL_length _ _, partL_lt _ _, ?_⟩
  unfold textS
  rw [hexL_part r.data.toList hr h]
theorem not_text_of_size {s : ByteArray} (h : s.size ≠ 71) : ∀ l, ¬ IsText s l := fun _ k => h k.size
/-- A text with a byte that is no digit behind the head is none's. -/
theorem not_text_of_digit (r : ByteArray) (k : Nat) (hk : k < 64) (h : hv (r.data.toList.getD k 0) < 0) : ∀ l, ¬ IsText (preS ++ r) l := by
  intro l t
  have e2 : r.data.toList = hexL l := by
    have := congrArg ByteArray.data t.split
    simp only [ByteArray.data_append] at this
    have := congrArg Array.toList this
    simpa using this
  have := (hexL_digits l t.1 t.2.1 k hk).1
  rw [← e2] at this
  omega
theorem not_text_of_head {s : ByteArray} (h : ∀ r, s ≠ preS ++ r) : ∀ l, ¬ IsText s l := fun _ t => h _ t.split
theorem cells8_set (l : List Nat) (i x : Nat) : (cells8 l).toArray.setIfInBounds i (.int .u8 (x : Int)) = (cells8 (l.set i x)).toArray := by
  unfold cells8
  apply Array.toList_inj.1
  simp [List.map_set]
end Go.Proofs.Ytegjphfkkafomaa.Dg
