/- Maps of blocks, plain: which blocks are in use, as a function. -/
import Derived.Test.YtidnkckfkgaooaaAl20
namespace Go.Proofs.Ytidnkckfkgaooaa.Al
open Go.RowKit Go.Shelf Go.Proofs Go.Proofs.Ytidnkckfkgaooaa.Ext Go.Proofs.Ytidnkckfkgaooaa.Pure Go.Proofs.YtidnkckfkgaooaaW.PrintWords Go.Proofs.YtidnkckfkgaooaaW.PrintLast Go.Proofs.YtidnkckfkgaooaaW.PrintMore

/-- A text whose bits these are: so many, none behind them. -/
def Bits (s : ByteArray) (N : Nat) (f : Nat → Bool) : Prop := s.size = (N + 7) / 8 ∧ ∀ i, hasB s i = (decide (i < N) && f i)
theorem Bits.at {s : ByteArray} {N : Nat} {f : Nat → Bool} (h : Bits s N f) (i : Nat) (hi : i < N) : hasB s i = f i := by
  rw [h.2, decide_eq_true hi, Bool.true_and]
theorem Bits.out {s : ByteArray} {N : Nat} {f : Nat → Bool} (h : Bits s N f) (i : Nat) (hi : N ≤ i) : hasB s i = false := by
  rw [h.2, decide_eq_false (by omega), Bool.false_and]
theorem Bits.size8 {s : ByteArray} {N : Nat} {f : Nat → Bool} (h : Bits s N f) : N ≤ 8 * s.size := by
  rw [h.1]
  omega
theorem Bits.ok {s : ByteArray} {N : Nat} {f : Nat → Bool} (h : Bits s N f) : OfOk s N := ⟨h.1, fun i hi _ => h.out i hi⟩
theorem Bits.of {s : ByteArray} {N : Nat} (h : OfOk s N) : Bits s N (hasB s) := by
  refine ⟨h.1, fun i => ?_⟩
  by_cases hi : i < N
  · simp [hi]
  · rw [decide_eq_false hi, Bool.false_and]
    by_cases h8 : i < 8 * s.size
    · exact h.2 i (by omega) h8
    · rw [hasB_eq, decide_eq_false h8, Bool.false_and]
theorem Bits.ext {s t : ByteArray} {N : Nat} {f k : Nat → Bool} (h : Bits s N f) (h' : Bits t N k) (e : ∀ i, i < N → f i = k i) : s = t := by
  refine text_ext (h.1.trans h'.1.symm) fun i _ => ?_
  rw [h.2, h'.2]
  by_cases hi : i < N
  · rw [e i hi]
  · rw [decide_eq_false hi]
    rfl
theorem Bits.congr {s : ByteArray} {N : Nat} {f k : Nat → Bool} (h : Bits s N f) (e : ∀ i, i < N → f i = k i) : Bits s N k := by
  refine ⟨h.1, fun i => ?_⟩
  rw [h.2]
  by_cases hi : i < N
  · rw [e i hi]
  · rw [decide_eq_false hi]
    rfl
theorem bits_zero (N : Nat) : Bits (zeroS ((N + 7) / 8)) N (fun _ => false) := ⟨zeroS_size _, fun i => by rw [hasB_zeroS]; simp⟩
theorem cntF_congr {f k : Nat → Bool} : ∀ n, (∀ i, i < n → f i = k i) → cntF f n = cntF k n
  | 0, _ => rfl
  | n + 1, h => by rw [cntF_succ, cntF_succ, h n (by omega), cntF_congr n (fun i hi => h i (by omega))]
theorem cntF_hasB' (s : ByteArray) : ∀ n, cntF (hasB s) n = countTo s n
  | 0 => rfl
  | n + 1 => by
    rw [cntF_succ, cntF_hasB' s n]
    rfl
theorem countTo_clear' (s : ByteArray) (n : Nat) : ∀ d, (∀ i, n ≤ i → i < n + d → hasB s i = false) → countTo s (n + d) = countTo s n
  | 0, _ => rfl
  | d + 1, h => by
    show countTo s (n + d) + (if hasB s (n + d) = true then 1 else 0) = _
    rw [countTo_clear' s n d (fun i h1 h2 => h i h1 (by omega)), h (n + d) (by omega) (by omega)]
    rfl
theorem Bits.count {s : ByteArray} {N : Nat} {f : Nat → Bool} (h : Bits s N f) : countN s = cntF f N := by
  have h2 := h.size8
  have := countTo_clear' s N (8 * s.size - N) (fun i h3 h4 => h.out i h3)
  rw [show N + (8 * s.size - N) = 8 * s.size from by omega] at this
  show countTo s (8 * s.size) = _
  rw [this, ← cntF_hasB']
  exact cntF_congr N fun i hi => h.at i hi

/-! ### Set -/
theorem setN_bits {s : ByteArray} {N : Nat} {f : Nat → Bool} (h : Bits s N f) (on : Bool) (F : Nat) : ∀ m, F + m ≤ N → Bits (setN on (F : Int) m s) N (fun i => if F ≤ i ∧ i < F + m then on else f i)
  | 0, _ => by
    refine h.congr fun i _ => ?_
    rw [if_neg (by omega)]
  | m + 1, hm => by
    have ih := setN_bits h on F m (by omega)
    have h8 := ih.size8
    show Bits (withI (setN on (F : Int) m s) ((F : Int) + (m : Int)) on) N _
    rw [show (F : Int) + (m : Int) = ((F + m : Nat) : Int) from by omega, withI_in _ _ _ (by omega)]
    refine ⟨by rw [withS_size]; exact ih.1, fun i => ?_⟩
    rw [withS_bit _ _ _ _ (by omega)]
    by_cases e : i = F + m
    · subst e
      rw [if_pos rfl, decide_eq_true (show F + m < N by omega)]
      show on = (true && (if F ≤ F + m ∧ F + m < F + (m + 1) then on else f (F + m)))
      rw [if_pos (by omega), Bool.true_and]
    · rw [if_neg e, ih.2]
      show (decide (i < N) && (if F ≤ i ∧ i < F + m then on else f i)) = (decide (i < N) && (if F ≤ i ∧ i < F + (m + 1) then on else f i))
      by_cases e2 : F ≤ i ∧ i < F + m
      · rw [if_pos e2, if_pos (by omega)]
      · rw [if_neg e2, if_neg (by omega)]
/-- A block is among some extents. -/
def cov : List (Int × Int) → Nat → Bool
  | [], _ => false
  | x :: r, i => (decide (x.1 ≤ (i : Int)) && decide ((i : Int) < x.1 + x.2)) || cov r i
theorem setE_bits (on : Bool) {N : Nat} : ∀ (L : List (Int × Int)) {s : ByteArray} {f : Nat → Bool}, Bits s N f → (∀ x ∈ L, inE N x) → Bits (setE on L s) N (fun i => if cov L i = true then on else f i)
  | [], s, f, h, _ => h.congr fun i _ => by simp [cov]
  | x :: r, s, f, h, hL => by
    have hx := hL x List.mem_cons_self
    unfold inE at hx
    obtain ⟨F, hF⟩ := Int.eq_ofNat_of_zero_le hx.1
    have h1 := setN_bits h on F x.2.toNat (by omega)
    have h2 := setE_bits on r h1 (fun y hy => hL y (List.mem_cons_of_mem _ hy))
    show Bits (setE on r (setN on x.1 x.2.toNat s)) N _
    rw [hF]
    refine h2.congr fun i _ => ?_
    have e : (cov (x :: r) i = true) ↔ (F ≤ i ∧ i < F + x.2.toNat) ∨ cov r i = true := by
      show ((decide (x.1 ≤ (i : Int)) && decide ((i : Int) < x.1 + x.2)) || cov r i) = true ↔ _
      rw [Bool.or_eq_true, Bool.and_eq_true, decide_eq_true_eq, decide_eq_true_eq]
      constructor
      · rintro (⟨a, b⟩ | a)
        · left; omega
        · exact .inr a
      · rintro (a | a)
        · left; omega
        · exact .inr a
    by_cases c1 : cov r i = true
    · rw [if_pos c1, if_pos (e.2 (.inr c1))]
    · rw [if_neg c1]
      by_cases c2 : F ≤ i ∧ i < F + x.2.toNat
      · rw [if_pos c2, if_pos (e.2 (.inl c2))]
      · rw [if_neg c2, if_neg (fun h => by rcases e.1 h with h | h; exact c2 h; exact c1 h)]

/-! ### What Find finds -/
theorem findE_first {s : ByteArray} {N n a : Nat} (hn : 1 ≤ n) (h1 : a + n ≤ N) (h2 : N ≤ 8 * s.size) (hc : ∀ j, j < n → hasB s (a + j) = false) (hf : ∀ p, p < a → ∃ j, j < n ∧ hasB s (p + j) = true) : findE s N n = [((a : Int), (n : Int))] := by
  have hF := runS_found s 0 (n : Int) (by omega)
  have hG : Pure.Found s (0 : Int).toNat (n : Int).toNat (a : Int) := .inr ⟨a, rfl, Nat.zero_le _, ⟨by rw [Int.toNat_natCast]; omega, fun j hj => hc j (by rw [Int.toNat_natCast] at hj; exact hj)⟩, fun p _ hp ho => by
    obtain ⟨j, hj, hb⟩ := hf p hp
    have := ho.2 j (by rw [Int.toNat_natCast]; exact hj)
    rw [hb] at this
    cases this⟩
  have hr := hF.unique hG
  unfold findE
  rw [hr, if_pos (by omega)]
theorem findE_rest {s : ByteArray} {N n : Nat} (hn : 1 ≤ n) (h : ∀ a, a + n ≤ N → ∃ j, j < n ∧ hasB s (a + j) = true) : findE s N n = if 8 < (packE ((freeL s N).take n)).length then [] else packE ((freeL s N).take n) := by
  have hF := runS_found s 0 (n : Int) (by omega)
  unfold findE
  rw [if_neg]
  rintro ⟨h1, h2⟩
  rcases hF with ⟨h3, _⟩ | ⟨a, h3, _, ⟨_, h5⟩, _⟩
  · omega
  · obtain ⟨j, hj, hb⟩ := h a (by omega)
    have := h5 j (by rw [Int.toNat_natCast]; exact hj)
    rw [hb] at this
    cases this
end Go.Proofs.Ytidnkckfkgaooaa.Al
