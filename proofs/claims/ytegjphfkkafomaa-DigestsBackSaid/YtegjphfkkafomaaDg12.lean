/- Of two digests' texts one is less as they are: plain. -/
import Derived.Test.YtegjphfkkafomaaDg11
namespace Go.Proofs.Ytegjphfkkafomaa.Dg
open Go.RowKit Go.Proofs Go.Proofs.YtegjphfkkafomaaW.PrintWords Go.Proofs.YtegjphfkkafomaaW.PrintLast Go.Proofs.YtegjphfkkafomaaW.PrintMore

theorem hx_order : ∀ n m : Fin 16, (decide (hx n.val < hx m.val)) = decide (n.val < m.val) ∧ (hx n.val == hx m.val) = decide (n.val = m.val) := by decide +kernel
theorem hx_lt (n m : Nat) (h : n < 16) (k : m < 16) : (decide (hx n < hx m)) = decide (n < m) := (hx_order ⟨n, h⟩ ⟨m, k⟩).1
theorem hx_eq (n m : Nat) (h : n < 16) (k : m < 16) : (hx n == hx m) = decide (n = m) := (hx_order ⟨n, h⟩ ⟨m, k⟩).2
theorem less_hex : ∀ (a b : List Nat), a.length = b.length → (∀ x ∈ a, x < 256) → (∀ x ∈ b, x < 256) → Op.bytesLess (hexL a) (hexL b) = decide (Lib.compareBytes (bsN a) (bsN b) < 0)
  | [], [], _, _, _ => rfl
  | [], _ :: _, h, _, _ => by simp at h
  | _ :: _, [], h, _, _ => by simp at h
  | x :: a, y :: b, h, ha, hb => by
    have hx1 := ha x List.mem_cons_self
    have hy1 := hb y List.mem_cons_self
    have ih := less_hex a b (by simpa using h) (fun z hz => ha z (List.mem_cons_of_mem _ hz)) (fun z hz => hb z (List.mem_cons_of_mem _ hz))
    have e1 : Op.bytesLess (hexL (x :: a)) (hexL (y :: b)) = (decide (x / 16 < y / 16) || (decide (x / 16 = y / 16) && (decide (x % 16 < y % 16) || (decide (x % 16 = y % 16) && Op.bytesLess (hexL a) (hexL b))))) := by
      rw [← hx_lt (x / 16) (y / 16) (by omega) (by omega), ← hx_eq (x / 16) (y / 16) (by omega) (by omega), ← hx_lt (x % 16) (y % 16) (by omega) (by omega), ← hx_eq (x % 16) (y % 16) (by omega) (by omega)]
      rfl
    have e2 : Lib.compareBytes (bsN (x :: a)) (bsN (y :: b)) = if x < y then -1 else if y < x then 1 else Lib.compareBytes (bsN a) (bsN b) := by
      have lt1 : ∀ a b : Nat, a < 256 → b < 256 → (UInt8.ofNat a < UInt8.ofNat b ↔ a < b) := fun a b ha hb => by
        rw [UInt8.lt_iff_toNat_lt, UInt8.toNat_ofNat_of_lt' ha, UInt8.toNat_ofNat_of_lt' hb]
      show (if UInt8.ofNat x < UInt8.ofNat y then -1 else if UInt8.ofNat y < UInt8.ofNat x then 1 else Lib.compareBytes (bsN a) (bsN b)) = _
      simp only [lt1 x y hx1 hy1, lt1 y x hy1 hx1]
    rw [e1, e2, ih]
    by_cases h1 : x < y
    · rw [if_pos h1]
      by_cases h2 : x / 16 < y / 16
      · simp [h2]
      · have h3 : x / 16 = y / 16 := by omega
        have h4 : x % 16 < y % 16 := by omega
        simp [h3, h4]
    · rw [if_neg h1]
      by_cases h2 : y < x
      · rw [if_pos h2]
        have h3 : ¬ x / 16 < y / 16 := by omega
        by_cases h4 : x / 16 = y / 16
        · have h5 : ¬ x % 16 < y % 16 := by omega
          have h6 : ¬ x % 16 = y % 16 := by omega
          simp [h4, h5, h6]
        · simp [h3, h4]
      · rw [if_neg h2]
        have h3 : x = y := by omega
        subst h3
        simp
theorem bytesLess_pre : ∀ (p a b : List UInt8), Op.bytesLess (p ++ a) (p ++ b) = Op.bytesLess a b
  | [], _, _ => rfl
  | x :: p, a, b => by
    show (decide (x < x) || (x == x && Op.bytesLess (p ++ a) (p ++ b))) = _
    rw [bytesLess_pre p a b]
    simp
theorem less_text (a b : List Nat) (h : a.length = b.length) (ha : ∀ x ∈ a, x < 256) (hb : ∀ x ∈ b, x < 256) : Op.bytesLess (textS a).toList (textS b).toList = lessB a b := by
  have e : ∀ l, (textS l).toList = preS.data.toList ++ hexL l := fun l => by
    rw [ByteArray.toList_eq]
    unfold textS
    simp [ByteArray.data_append]
  rw [e, e, bytesLess_pre, less_hex a b h ha hb]
  rfl
/-- Of two that are not the same one is less. -/
theorem less_or (a b : List Nat) (ha : a.length = 32) (ba : ∀ x ∈ a, x < 256) (hb : b.length = 32) (bb : ∀ x ∈ b, x < 256) (h : a ≠ b) : (lessB a b = true ∧ lessB b a = false) ∨ (lessB a b = false ∧ lessB b a = true) := by
  have hex : ∃ i, i < 32 ∧ (∀ j, j < i → fB a j = fB b j) ∧ fB a i ≠ fB b i := by
    refine Classical.byContradiction fun hc => h ?_
    have all : ∀ i, i ≤ 32 → ∀ j, j < i → fB a j = fB b j := by
      intro i
      induction i with
      | zero => intro _ j hj; omega
      | succ i ih =>
        intro hi j hj
        by_cases e : j = i
        · subst e
          refine Classical.byContradiction fun hne => hc ⟨j, by omega, ih (by omega), hne⟩
        · exact ih (by omega) j (by omega)
    apply List.ext_getElem?
    intro j
    by_cases hj : j < 32
    · have := all 32 (Nat.le_refl _) j hj
      unfold fB at this
      rw [List.getD_eq_getElem?_getD, List.getD_eq_getElem?_getD, List.getElem?_eq_getElem (by omega), List.getElem?_eq_getElem (by omega)] at this
      rw [List.getElem?_eq_getElem (by omega), List.getElem?_eq_getElem (by omega)]
      exact congrArg some this
    · rw [List.getElem?_eq_none (by omega), List.getElem?_eq_none (by omega)]
  obtain ⟨i, hi, hall, hne⟩ := hex
  rw [less_at a b ha ba hb bb i hi hall hne, less_at b a hb bb ha ba i hi (fun j hj => (hall j hj).symm) (Ne.symm hne)]
  by_cases hlt : fB a i < fB b i
  · exact .inl ⟨decide_eq_true hlt, decide_eq_false (by omega)⟩
  · exact .inr ⟨decide_eq_false hlt, decide_eq_true (by omega)⟩
theorem text_inj (a b : List Nat) (ha : a.length = 32) (ba : ∀ x ∈ a, x < 256) (hb : b.length = 32) (bb : ∀ x ∈ b, x < 256) : ((textS a).toList == (textS b).toList) = (a == b) := by
  rw [str_beq, Bool.eq_iff_iff, decide_eq_true_iff, beq_iff_eq]
  constructor
  · intro h
    exact IsText.one (s := textS a) ⟨ha, ba, rfl⟩ ⟨hb, bb, h⟩
  · intro h
    rw [h]
end Go.Proofs.Ytegjphfkkafomaa.Dg
