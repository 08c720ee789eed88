/- Al22, Al23, Al25, Al26, put together. -/
import Derived.Test.YtidnkckfkgaooaaAlD
/- Maps of blocks, plain: which blocks are in use, as a function. -/
namespace Go.Proofs.Ytidnkckfkgaooaa.Al
open Go.RowKit Go.Shelf Go.Proofs Go.Proofs.Ytidnkckfkgaooaa.Ext Go.Proofs.Ytidnkckfkgaooaa.Pure Go.Proofs.YtidnkckfkgaooaaW.PrintWords Go.Proofs.YtidnkckfkgaooaaW.PrintLast Go.Proofs.YtidnkckfkgaooaaW.PrintMore

/-- A text whose bits these are: so many, none behind them. -/
def Bits (s : ByteArray) (N : Nat) (f : Nat → Bool) : Prop := s.size = (N + 7) / 8 ∧ ∀ i, hasB s i = (decide (i < N) && f i)
theorem Bits.at {s : ByteArray} {N : Nat} {f : Nat → Bool} (h : Bits s N f) (i : Nat) (hi : i < N) : hasB s i = f i := by
  rw [h.2, decide_eq_true hi, Bool.true_and]
theorem Bits.out {s : ByteArray} {N : Nat} {f : Nat → Bool} (h : Bits s N f) (i : Nat) (hi : N ≤ i) : hasB s i = false := by
  rw [h.2, decide_eq_false (by omega), Bool.false_and]
theorem Bits.size8 {s : ByteArray} {N : Nat} {f : Nat → Bool} (h : Bits s N f) : N ≤ 8 * s.size := by
  rw [h.1]
  omega
theorem Bits.ok {s : ByteArray} {N : Nat} {f : Nat → Bool} (h : Bits s N f) : OfOk s N := ⟨h.1, fun i hi _ => h.out i hi⟩
theorem Bits.of {s : ByteArray} {N : Nat} (h : OfOk s N) : Bits s N (hasB s) := by
  refine ⟨h.1, fun i => ?_⟩
  by_cases hi : i < N
  · simp [hi]
  · rw [decide_eq_false hi, Bool.false_and]
    by_cases h8 : i < 8 * s.size
    · exact h.2 i (by omega) h8
    · rw [hasB_eq, decide_eq_false h8, Bool.false_and]
theorem Bits.ext {s t : ByteArray} {N : Nat} {f k : Nat → Bool} (h : Bits s N f) (h' : Bits t N k) (e : ∀ i, i < N → f i = k i) : s = t := by
  refine text_ext (h.1.trans h'.1.symm) fun i _ => ?_
  rw [h.2, h'.2]
  by_cases hi : i < N
  · rw [e i hi]
  · rw [decide_eq_false hi]
    rfl
theorem Bits.congr {s : ByteArray} {N : Nat} {f k : Nat → Bool} (h : Bits s N f) (e : ∀ i, i < N → f i = k i) : Bits s N k := by
  refine ⟨h.1, fun i => ?_⟩
  rw [h.2]
  by_cases hi : i < N
  · rw [e i hi]
  · rw [decide_eq_false hi]
    rfl
theorem bits_zero (N : Nat) : Bits (zeroS ((N + 7) / 8)) N (fun _ => false) := ⟨zeroS_size _, fun i => by rw [hasB_zeroS]; simp⟩
theorem cntF_congr {f k : Nat → Bool} : ∀ n, (∀ i, i < n → f i = k i) → cntF f n = cntF k n
  | 0, _ => rfl
  | n + 1, h => by rw [cntF_succ, cntF_succ, h n (by omega), cntF_congr n (fun i hi => h i (by omega))]
theorem cntF_hasB' (s : ByteArray) : ∀ n, cntF (hasB s) n = countTo s n
  | 0 => rfl
  | n + 1 => by
    rw [cntF_succ, cntF_hasB' s n]
    rfl
theorem countTo_clear' (s : ByteArray) (n : Nat) : ∀ d, (∀ i, n ≤ i → i < n + d → hasB s i = false) → countTo s (n + d) = countTo s n
  | 0, _ => rfl
  | d + 1, h => by
    show countTo s (n + d) + (if hasB s (n + d) = true then 1 else 0) = _
    rw [countTo_clear' s n d (fun i h1 h2 => h i h1 (by omega)), h (n + d) (by omega) (by omega)]
    rfl
theorem Bits.count {s : ByteArray} {N : Nat} {f : Nat → Bool} (h : Bits s N f) : countN s = cntF f N := by
  have h2 := h.size8
  have := countTo_clear' s N (8 * s.size - N) (fun i h3 h4 => h.out i h3)
  rw [show N + (8 * s.size - N) = 8 * s.size from by omega] at this
  show countTo s (8 * s.size) = _
  rw [this, ← cntF_hasB']
  exact cntF_congr N fun i hi => h.at i hi

/-! ### Set -/
theorem setN_bits {s : ByteArray} {N : Nat} {f : Nat → Bool} (h : Bits s N f) (on : Bool) (F : Nat) : ∀ m, F + m ≤ N → Bits (setN on (F : Int) m s) N (fun i => if F ≤ i ∧ i < F + m then on else f i)
  | 0, _ => by
    refine h.congr fun i _ => ?_
    rw [if_neg (by omega)]
  | m + 1, hm => by
    have ih := setN_bits h on F m (by omega)
    have h8 := ih.size8
    show Bits (withI (setN on (F : Int) m s) ((F : Int) + (m : Int)) on) N _
    rw [show (F : Int) + (m : Int) = ((F + m : Nat) : Int) from by omega, withI_in _ _ _ (by omega)]
    refine ⟨by rw [withS_size]; exact ih.1, fun i => ?_⟩
    rw [withS_bit _ _ _ _ (by omega)]
    by_cases e : i = F + m
    · subst e
      rw [if_pos rfl, decide_eq_true (show F + m < N by omega)]
      show on = (true && (if F ≤ F + m ∧ F + m < F + (m + 1) then on else f (F + m)))
      rw [if_pos (by omega), Bool.true_and]
    · rw [if_neg e, ih.2]
      show (decide (i < N) && (if F ≤ i ∧ i < F + m then on else f i)) = (decide (i < N) && (if F ≤ i ∧ i < F + (m + 1) then on else f i))
      by_cases e2 : F ≤ i ∧ i < F + m
      · rw [if_pos e2, if_pos (by omega)]
      · rw [if_neg e2, if_neg (by omega)]
/-- A block is among some extents. -/
def cov : List (Int × Int) → Nat → Bool
  | [], _ => false
  | x :: r, i => (decide (x.1 ≤ (i : Int)) && decide ((i : Int) < x.1 + x.2)) || cov r i
theorem setE_bits (on : Bool) {N : Nat} : ∀ (L : List (Int × Int)) {s : ByteArray} {f : Nat → Bool}, Bits s N f → (∀ x ∈ L, inE N x) → Bits (setE on L s) N (fun i => if cov L i = true then on else f i)
  | [], s, f, h, _ => h.congr fun i _ => by simp [cov]
  | x :: r, s, f, h, hL => by
    have hx := hL x List.mem_cons_self
    unfold inE at hx
    obtain ⟨F, hF⟩ := Int.eq_ofNat_of_zero_le hx.1
    have h1 := setN_bits h on F x.2.toNat (by omega)
    have h2 := setE_bits on r h1 (fun y hy => hL y (List.mem_cons_of_mem _ hy))
    show Bits (setE on r (setN on x.1 x.2.toNat s)) N _
    rw [hF]
    refine h2.congr fun i _ => ?_
    have e : (cov (x :: r) i = true) ↔ (F ≤ i ∧ i < F + x.2.toNat) ∨ cov r i = true := by
      show ((decide (x.1 ≤ (i : Int)) && decide ((i : Int) < x.1 + x.2)) || cov r i) = true ↔ _
      rw [Bool.or_eq_true, Bool.and_eq_true, decide_eq_true_eq, decide_eq_true_eq]
      constructor
      · rintro (⟨a, b⟩ | a)
        · left; omega
        · exact .inr a
      · rintro (a | a)
        · left; omega
        · exact .inr a
    by_cases c1 : cov r i = true
    · rw [if_pos c1, if_pos (e.2 (.inr c1))]
    · rw [if_neg c1]
      by_cases c2 : F ≤ i ∧ i < F + x.2.toNat
      · rw [if_pos c2, if_pos (e.2 (.inl c2))]
      · rw [if_neg c2, if_neg (fun h => by rcases e.1 h with h | h; exact c2 h; exact c1 h)]

/-! ### What Find finds -/
theorem findE_first {s : ByteArray} {N n a : Nat} (hn : 1 ≤ n) (h1 : a + n ≤ N) (h2 : N ≤ 8 * s.size) (hc : ∀ j, j < n → hasB s (a + j) = false) (hf : ∀ p, p < a → ∃ j, j < n ∧ hasB s (p + j) = true) : findE s N n = [((a : Int), (n : Int))] := by
  have hF := runS_found s 0 (n : Int) (by omega)
  have hG : Pure.Found s (0 : Int).toNat (n : Int).toNat (a : Int) := .inr ⟨a, rfl, Nat.zero_le _, ⟨by rw [Int.toNat_natCast]; omega, fun j hj => hc j (by rw [Int.toNat_natCast] at hj; exact hj)⟩, fun p _ hp ho => by
    obtain ⟨j, hj, hb⟩ := hf p hp
    have := ho.2 j (by rw [Int.toNat_natCast]; exact hj)
    rw [hb] at this
    cases this⟩
  have hr := hF.unique hG
  unfold findE
  rw [hr, if_pos (by omega)]
theorem findE_rest {s : ByteArray} {N n : Nat} (hn : 1 ≤ n) (h : ∀ a, a + n ≤ N → ∃ j, j < n ∧ hasB s (a + j) = true) : findE s N n = if 8 < (packE ((freeL s N).take n)).length then [] else packE ((freeL s N).take n) := by
  have hF := runS_found s 0 (n : Int) (by omega)
  unfold findE
  rw [if_neg]
  rintro ⟨h1, h2⟩
  rcases hF with ⟨h3, _⟩ | ⟨a, h3, _, ⟨_, h5⟩, _⟩
  · omega
  · obtain ⟨j, hj, hb⟩ := h a (by omega)
    have := h5 j (by rw [Int.toNat_natCast]; exact hj)
    rw [hb] at this
    cases this
end Go.Proofs.Ytidnkckfkgaooaa.Al
/- The first blocks are taken: plain. -/
namespace Go.Proofs.Ytidnkckfkgaooaa.Al
open Go.RowKit Go.Shelf Go.Proofs Go.Proofs.Ytidnkckfkgaooaa.Ext Go.Proofs.Ytidnkckfkgaooaa.Pure Go.Proofs.YtidnkckfkgaooaaW.PrintWords Go.Proofs.YtidnkckfkgaooaaW.PrintLast Go.Proofs.YtidnkckfkgaooaaW.PrintMore

theorem cntF_none : ∀ n, cntF (fun _ => false) n = 0
  | 0 => rfl
  | n + 1 => by rw [cntF_succ, cntF_none n]; rfl
theorem cntF_all : ∀ n, cntF (fun _ => true) n = n
  | 0 => rfl
  | n + 1 => by rw [cntF_succ, cntF_all n]; rfl
theorem cntF_lt (k : Nat) : ∀ n, cntF (fun i => decide (i < k)) n = min k n
  | 0 => by simp [cntF]
  | n + 1 => by
    rw [cntF_succ, cntF_lt k n]
    by_cases h : n < k
    · simp only [decide_eq_true h, if_true]
      omega
    · simp only [decide_eq_false h]
      simp
      omega
theorem cntF_odd : ∀ n, cntF (fun i => i % 2 == 1) n = n / 2
  | 0 => rfl
  | n + 1 => by
    rw [cntF_succ, cntF_odd n]
    by_cases h : n % 2 = 1
    · simp only [h]
      simp
      omega
    · have h0 : n % 2 = 0 := by omega
      simp only [h0]
      simp
      omega
theorem cov_one (F m i : Nat) : cov [((F : Int), (m : Int))] i = (decide (F ≤ i) && decide (i < F + m)) := by
  unfold cov cov
  rw [Bool.or_false, Bool.eq_iff_iff, Bool.and_eq_true, Bool.and_eq_true, decide_eq_true_eq, decide_eq_true_eq, decide_eq_true_eq, decide_eq_true_eq]
  simp only
  omega
/-- The first ones of none in use. -/
theorem first_take {s : ByteArray} {N k : Nat} (h : Bits s N (fun _ => false)) (h1 : 1 ≤ k) (h2 : k ≤ N) : takeL s N (k : Int) = [((0 : Int), (k : Int))] ∧ Bits (takeS s N (k : Int)) N (fun i => decide (i < k)) := by
  have hL : takeL s N (k : Int) = [((0 : Int), (k : Int))] := by
    unfold takeL
    rw [if_neg (by rw [h.count, cntF_none]; omega), Int.toNat_natCast]
    exact findE_first (a := 0) h1 (by omega) h.size8 (fun j hj => by rw [Nat.zero_add]; exact h.at j (by omega)) (fun p hp => by omega)
  refine ⟨hL, ?_⟩
  unfold takeS
  rw [hL]
  refine (setE_bits true _ h (fun x hx => ?_)).congr fun i _ => ?_
  · obtain rfl := List.mem_singleton.1 hx
    unfold inE
    simp only
    omega
  · rw [show (0 : Int) = ((0 : Nat) : Int) from rfl, cov_one]
    by_cases e : i < k
    · rw [if_pos (by simp [e])]
      simp [e]
    · rw [if_neg (by simp [e])]
      simp [e]
theorem second_take {s : ByteArray} {N k : Nat} (h : Bits s N (fun i => decide (i < k))) (h2 : k < N) : takeL s N ((N - k : Nat) : Int) = [((k : Int), ((N - k : Nat) : Int))] ∧ Bits (takeS s N ((N - k : Nat) : Int)) N (fun _ => true) := by
  have hL : takeL s N ((N - k : Nat) : Int) = [((k : Int), ((N - k : Nat) : Int))] := by
    unfold takeL
    rw [if_neg (by rw [h.count, cntF_lt]; omega), Int.toNat_natCast]
    refine findE_first (a := k) (by omega) (by omega) h.size8 (fun j hj => ?_) (fun p hp => ⟨0, by omega, ?_⟩)
    · rw [h.at _ (by omega), decide_eq_false (by omega)]
    · rw [Nat.add_zero, h.at _ (by omega), decide_eq_true hp]
  refine ⟨hL, ?_⟩
  unfold takeS
  rw [hL]
  refine (setE_bits true _ h (fun x hx => ?_)).congr fun i hi => ?_
  · obtain rfl := List.mem_singleton.1 hx
    unfold inE
    simp only
    omega
  · rw [cov_one]
    by_cases e : k ≤ i
    · rw [if_pos (by rw [decide_eq_true e, decide_eq_true (by omega)]; rfl)]
    · rw [if_neg (by rw [decide_eq_false e, Bool.false_and]; decide), decide_eq_true (by omega)]
/-- One block given back. -/
theorem give_one {s : ByteArray} {N i : Nat} {f : Nat → Bool} (h : Bits s N f) (hi : i < N) (hf : f i = true) : giveE N [((i : Int), 1)] s = some (setN false (i : Int) 1 s) ∧ Bits (setN false (i : Int) 1 s) N (fun x => if x = i then false else f x) := by
  refine ⟨?_, (setN_bits h false i 1 (by omega)).congr fun x _ => ?_⟩
  · rw [giveE_step N (is_in (f := (i : Int)) (m := 1) (by omega) ?_), giveE_nil]
    · rfl
    · intro k hk
      obtain rfl : k = 0 := by omega
      rw [show (i : Int) + ((0 : Nat) : Int) = (i : Int) from by omega, hasI_nat, h.at i hi, hf]
  · by_cases e : x = i
    · rw [if_pos (by omega), if_pos e]
    · rw [if_neg (by omega), if_neg e]
theorem free_two (s : ByteArray) (d i : Nat) (h0 : hasB s i = false) (h1 : hasB s (i + 1) = true) : freeFrom s (d + 1 + 1) i = i :: freeFrom s d (i + 2) := by
  rw [freeFrom_split, freeFrom_split, if_pos h0, if_neg (by rw [h1]; decide)]
  rfl
theorem free_evens {s : ByteArray} {N : Nat} (h : Bits s N (fun i => i % 2 == 1)) (hN : 20 ≤ N) : ∃ r, freeL s N = [0, 2, 4, 6, 8, 10, 12, 14, 16] ++ r := by
  obtain ⟨d, rfl⟩ : ∃ d, N = d + 18 := ⟨N - 18, by omega⟩
  refine ⟨freeFrom s d 18, ?_⟩
  unfold freeL
  have e : ∀ i, i < 20 → hasB s i = (i % 2 == 1) := fun i hi => h.at i (by omega)
  rw [free_two s (d + 16) 0 (e 0 (by omega)) (e 1 (by omega)), free_two s (d + 14) 2 (e 2 (by omega)) (e 3 (by omega)), free_two s (d + 12) 4 (e 4 (by omega)) (e 5 (by omega)), free_two s (d + 10) 6 (e 6 (by omega)) (e 7 (by omega)),
    free_two s (d + 8) 8 (e 8 (by omega)) (e 9 (by omega)), free_two s (d + 6) 10 (e 10 (by omega)) (e 11 (by omega)), free_two s (d + 4) 12 (e 12 (by omega)) (e 13 (by omega)), free_two s (d + 2) 14 (e 14 (by omega)) (e 15 (by omega)), free_two s d 16 (e 16 (by omega)) (e 17 (by omega))]
  rfl
theorem odd_rest {s : ByteArray} {N : Nat} (h : Bits s N (fun i => i % 2 == 1)) (n : Nat) (hn : 2 ≤ n) : ∀ a, a + n ≤ N → ∃ j, j < n ∧ hasB s (a + j) = true := by
  intro a ha
  refine ⟨1 - a % 2, by omega, ?_⟩
  rw [h.at _ (by omega)]
  show ((a + (1 - a % 2)) % 2 == 1) = true
  rw [show (a + (1 - a % 2)) % 2 = 1 from by omega]
  rfl
theorem pack9 : packE [0, 2, 4, 6, 8, 10, 12, 14, 16] = [(0, 1), (2, 1), (4, 1), (6, 1), (8, 1), (10, 1), (12, 1), (14, 1), (16, 1)] := by kernel_rfl
theorem pack8 : packE [0, 2, 4, 6, 8, 10, 12, 14] = [(0, 1), (2, 1), (4, 1), (6, 1), (8, 1), (10, 1), (12, 1), (14, 1)] := by kernel_rfl
theorem take_nine {s : ByteArray} {N : Nat} (h : Bits s N (fun i => i % 2 == 1)) (hN : 20 ≤ N) : takeL s N 9 = [] := by
  obtain ⟨r, hr⟩ := free_evens h hN
  unfold takeL
  rw [if_neg (by rw [h.count, cntF_odd]; omega), show (9 : Int).toNat = 9 from rfl, findE_rest (by omega) (odd_rest h 9 (by omega)), hr, List.take_append_of_le_length (by decide), show ([0, 2, 4, 6, 8, 10, 12, 14, 16] : List Nat).take 9 = [0, 2, 4, 6, 8, 10, 12, 14, 16] from rfl, pack9]
  rfl
theorem take_eight {s : ByteArray} {N : Nat} (h : Bits s N (fun i => i % 2 == 1)) (hN : 20 ≤ N) : takeL s N 8 = [(0, 1), (2, 1), (4, 1), (6, 1), (8, 1), (10, 1), (12, 1), (14, 1)] := by
  obtain ⟨r, hr⟩ := free_evens h hN
  unfold takeL
  rw [if_neg (by rw [h.count, cntF_odd]; omega), show (8 : Int).toNat = 8 from rfl, findE_rest (by omega) (odd_rest h 8 (by omega)), hr, List.take_append_of_le_length (by decide), show ([0, 2, 4, 6, 8, 10, 12, 14, 16] : List Nat).take 8 = [0, 2, 4, 6, 8, 10, 12, 14] from rfl, pack8]
  rfl
end Go.Proofs.Ytidnkckfkgaooaa.Al
/- What is taken: rising, apart, of none in use, as many as were asked for; given back: all as it was: plain. -/
namespace Go.Proofs.Ytidnkckfkgaooaa.Al
open Go.RowKit Go.Shelf Go.Proofs Go.Proofs.Ytidnkckfkgaooaa.Ext Go.Proofs.Ytidnkckfkgaooaa.Pure Go.Proofs.YtidnkckfkgaooaaW.PrintWords Go.Proofs.YtidnkckfkgaooaaW.PrintLast Go.Proofs.YtidnkckfkgaooaaW.PrintMore

/-- Extents that rise and do not touch, the first one behind e. -/
def RiseL : List (Int × Int) → Int → Prop
  | [], _ => True
  | x :: r, e => e < x.1 ∧ 1 ≤ x.2 ∧ RiseL r (x.1 + x.2)
def endE : List (Int × Int) → Int → Int
  | [], e => e
  | x :: r, _ => endE r (x.1 + x.2)
def sumE : List (Int × Int) → Int
  | [] => 0
  | x :: r => x.2 + sumE r
theorem rise_snoc : ∀ (L : List (Int × Int)) (x : Int × Int) (e : Int), RiseL (L ++ [x]) e ↔ RiseL L e ∧ endE L e < x.1 ∧ 1 ≤ x.2
  | [], x, e => by simp [RiseL, endE]
  | y :: r, x, e => by
    show (e < y.1 ∧ 1 ≤ y.2 ∧ RiseL (r ++ [x]) (y.1 + y.2)) ↔ (e < y.1 ∧ 1 ≤ y.2 ∧ RiseL r (y.1 + y.2)) ∧ endE r (y.1 + y.2) < x.1 ∧ 1 ≤ x.2
    rw [rise_snoc r x]
    constructor
    · rintro ⟨a, b, c, d⟩
      exact ⟨⟨a, b, c⟩, d⟩
    · rintro ⟨⟨a, b, c⟩, d⟩
      exact ⟨a, b, c, d⟩
theorem end_snoc : ∀ (L : List (Int × Int)) (x : Int × Int) (e : Int), endE (L ++ [x]) e = x.1 + x.2
  | [], _, _ => rfl
  | y :: r, x, _ => end_snoc r x (y.1 + y.2)
theorem sum_snoc : ∀ (L : List (Int × Int)) (x : Int × Int), sumE (L ++ [x]) = sumE L + x.2
  | [], x => by simp [sumE]
  | y :: r, x => by
    show y.2 + sumE (r ++ [x]) = y.2 + sumE r + x.2
    rw [sum_snoc r x]
    omega
theorem cov_snoc : ∀ (L : List (Int × Int)) (x : Int × Int) (i : Nat), cov (L ++ [x]) i = (cov L i || (decide (x.1 ≤ (i : Int)) && decide ((i : Int) < x.1 + x.2)))
  | [], x, i => by simp [cov]
  | y :: r, x, i => by
    show ((decide (y.1 ≤ (i : Int)) && decide ((i : Int) < y.1 + y.2)) || cov (r ++ [x]) i) = ((decide (y.1 ≤ (i : Int)) && decide ((i : Int) < y.1 + y.2)) || cov r i || _)
    rw [cov_snoc r x i, Bool.or_assoc]
/-- What is packed out of rising blocks. -/
theorem pack_rise : ∀ (B : List Nat), B.Pairwise (· < ·) → RiseL (packE B) (-1) ∧ (∀ i, (∀ j ∈ B, j < i) → endE (packE B) (-1) ≤ (i : Int)) ∧ (∀ i, cov (packE B) i = true ↔ i ∈ B) ∧ sumE (packE B) = (B.length : Int) := by
  intro B hB
  have key : ∀ n (B : List Nat), B.length = n → B.Pairwise (· < ·) → RiseL (packE B) (-1) ∧ (∀ i, (∀ j ∈ B, j < i) → endE (packE B) (-1) ≤ (i : Int)) ∧ (∀ i, cov (packE B) i = true ↔ i ∈ B) ∧ sumE (packE B) = (B.length : Int) := by
    intro n
    induction n with
    | zero =>
      intro B hl _
      obtain rfl := List.eq_nil_of_length_eq_zero hl
      exact ⟨trivial, fun i _ => by show (-1 : Int) ≤ (i : Int); omega, fun i => by simp [packE, cov], rfl⟩
    | succ n ih =>
      intro B hl hB
      rcases List.eq_nil_or_concat B with rfl | ⟨C, b, hC⟩
      · cases hl
      · rw [List.concat_eq_append] at hC
        subst hC
        rw [List.pairwise_append] at hB
        obtain ⟨hB1, _, hB3⟩ := hB
        have hb : ∀ j ∈ C, j < b := fun j hj => hB3 j hj b (List.mem_singleton.2 rfl)
        obtain ⟨r1, r2, r3, r4⟩ := ih C (by rw [List.length_append] at hl; simp at hl; exact hl) hB1
        have r2b := r2 b hb
        rw [packE_snoc]
        rcases stepE_cases (packE C) b with ⟨M, f, c, e1, e2, e3⟩ | ⟨e1, e2⟩
        · rw [e3]
          rw [e1] at r1 r3 r4
          rw [rise_snoc] at r1
          rw [sum_snoc] at r4
          simp only at r1 r4
          refine ⟨(rise_snoc _ _ _).2 ⟨r1.1, r1.2.1, by simp only; omega⟩, fun i hi => ?_, fun i => ?_, ?_⟩
          · rw [end_snoc]
            have := hi b (List.mem_append_right _ (List.mem_singleton.2 rfl))
            simp only
            omega
          · rw [List.mem_append, List.mem_singleton, ← r3, cov_snoc, cov_snoc, Bool.or_eq_true, Bool.or_eq_true, Bool.and_eq_true, Bool.and_eq_true, decide_eq_true_eq, decide_eq_true_eq, decide_eq_true_eq]
            simp only
            constructor
            · rintro (h | h)
              · exact .inl (.inl h)
              · by_cases hib : i = b
                · exact .inr hib
                · exact .inl (.inr ⟨h.1, by omega⟩)
            · rintro ((h | h) | h)
              · exact .inl h
              · exact .inr ⟨h.1, by omega⟩
              · exact .inr ⟨by omega, by omega⟩
          · rw [sum_snoc, List.length_append, List.length_singleton]
            simp only
            omega
        · rw [e2]
          have hlt : endE (packE C) (-1) < (b : Int) := by
            rcases List.eq_nil_or_concat (packE C) with h0 | ⟨M, x, hx⟩
            · rw [h0]
              show (-1 : Int) < (b : Int)
              omega
            · rw [List.concat_eq_append] at hx
              have := e1 x (by rw [hx]; simp)
              rw [hx, end_snoc] at r2b ⊢
              omega
          refine ⟨(rise_snoc _ _ _).2 ⟨r1, hlt, by simp only; omega⟩, fun i hi => ?_, fun i => ?_, ?_⟩
          · rw [end_snoc]
            have := hi b (List.mem_append_right _ (List.mem_singleton.2 rfl))
            simp only
            omega
          · rw [List.mem_append, List.mem_singleton, ← r3, cov_snoc, Bool.or_eq_true, Bool.and_eq_true, decide_eq_true_eq, decide_eq_true_eq]
            simp only
            constructor
            · rintro (h | h)
              · exact .inl h
              · exact .inr (by omega)
            · rintro (h | h)
              · exact .inl h
              · exact .inr ⟨by omega, by omega⟩
          · rw [sum_snoc, List.length_append, List.length_singleton, r4]
            simp only
            omega
  exact key _ B rfl hB
theorem freeFrom_pair (s : ByteArray) : ∀ (d i : Nat), (freeFrom s d i).Pairwise (· < ·)
  | 0, _ => List.Pairwise.nil
  | d + 1, i => by
    rw [freeFrom_split]
    refine List.pairwise_append.2 ⟨?_, freeFrom_pair s d (i + 1), fun a ha b hb => ?_⟩
    · split
      · exact List.pairwise_singleton _ _
      · exact List.Pairwise.nil
    · have h2 := freeFrom_lt s d (i + 1) b hb
      split at ha
      · obtain rfl := List.mem_singleton.1 ha
        omega
      · cases ha
theorem freeFrom_mem (s : ByteArray) : ∀ (d i j : Nat), j ∈ freeFrom s d i → hasB s j = false
  | 0, _, _, h => by cases h
  | d + 1, i, j, h => by
    rw [freeFrom_split] at h
    rcases List.mem_append.1 h with h | h
    · split at h
      · obtain rfl := List.mem_singleton.1 h
        assumption
      · cases h
    · exact freeFrom_mem s d (i + 1) j h
theorem countTo_mono (s : ByteArray) (i : Nat) : countTo s (i + 1) = countTo s i + if hasB s i = true then 1 else 0 := rfl
theorem freeFrom_length (s : ByteArray) : ∀ (d i : Nat), (freeFrom s d i).length + countTo s (i + d) = d + countTo s i
  | 0, i => by
    show 0 + countTo s i = 0 + countTo s i
    rfl
  | d + 1, i => by
    have ih := freeFrom_length s d (i + 1)
    rw [show i + 1 + d = i + (d + 1) from by omega, countTo_mono] at ih
    rw [freeFrom_split, List.length_append]
    by_cases h : hasB s i = false
    · rw [if_pos h]
      rw [h] at ih
      simp at ih ⊢
      omega
    · rw [if_neg h]
      have h2 : hasB s i = true := by cases e : hasB s i with | true => rfl | false => exact absurd e h
      rw [h2] at ih
      simp at ih ⊢
      omega
theorem freeL_length {s : ByteArray} {N : Nat} {f : Nat → Bool} (h : Bits s N f) : (freeL s N).length + countN s = N := by
  have h1 := freeFrom_length s N 0
  have h2 := h.count
  rw [Nat.zero_add, ← cntF_hasB', cntF_congr N (fun i hi => h.at i hi), ← h2] at h1
  show (freeFrom s N 0).length + countN s = N
  have h3 : countTo s 0 = 0 := rfl
  omega
/-- What is taken, as the law says it. -/
structure TakeOk (f : Nat → Bool) (N : Nat) (n : Int) (L : List (Int × Int)) : Prop where
  rise : RiseL L (-1)
  inN : ∀ x ∈ L, inE N x
  free : ∀ i, cov L i = true → f i = false
  sum : sumE L = n
  len : L.length ≤ 8
theorem findE_ok {s : ByteArray} {N n : Nat} {f : Nat → Bool} (h : Bits s N f) (hn : 1 ≤ n) (hc : n + countN s ≤ N) : findE s N n = [] ∨ TakeOk f N (n : Int) (findE s N n) := by
  have hin := findE_in s N n hn
  have hlen := findE_length s N n
  have hF := runS_found s 0 (n : Int) (by omega)
  by_cases hr : 0 ≤ runS s 0 (n : Int) ∧ runS s 0 (n : Int) + (n : Int) ≤ (N : Int)
  · right
    have e : findE s N n = [(runS s 0 (n : Int), (n : Int))] := by
      unfold findE
      rw [if_pos hr]
    rw [e] at hin hlen ⊢
    rcases hF with ⟨h3, _⟩ | ⟨a, h3, _, ⟨_, h5⟩, _⟩
    · omega
    · rw [h3] at hin hr ⊢
      refine ⟨⟨by simp only; omega, by simp only; omega, trivial⟩, hin, fun i hi => ?_, by simp [sumE], by simp⟩
      rw [cov, cov, Bool.or_false, Bool.and_eq_true, decide_eq_true_eq, decide_eq_true_eq] at hi
      simp only at hi
      have h6 := h5 (i - a) (by rw [Int.toNat_natCast]; omega)
      rw [show a + (i - a) = i from by omega, h.at i (by omega)] at h6
      exact h6
  · have e : findE s N n = if 8 < (packE ((freeL s N).take n)).length then [] else packE ((freeL s N).take n) := by
      unfold findE
      rw [if_neg hr]
    rw [e] at hin hlen ⊢
    split
    · exact .inl rfl
    · rename_i h8
      rw [if_neg h8] at hin hlen
      right
      obtain ⟨r1, _, r3, r4⟩ := pack_rise ((freeL s N).take n) ((freeFrom_pair s N 0).sublist (List.take_sublist _ _))
      have hfl := freeL_length h
      refine ⟨r1, hin, fun i hi => ?_, ?_, by omega⟩
      · have hm := List.mem_of_mem_take ((r3 i).1 hi)
        rw [← h.at i (freeL_lt s N i hm)]
        exact freeFrom_mem s N 0 i hm
      · rw [r4, List.length_take]
        omega
theorem takeL_ok {s : ByteArray} {N : Nat} {f : Nat → Bool} (h : Bits s N f) (n : Int) : takeL s N n = [] ∨ TakeOk f N n (takeL s N n) := by
  unfold takeL
  split
  · exact .inl rfl
  · rename_i hc
    obtain ⟨m, rfl⟩ : ∃ m : Nat, n = (m : Int) := ⟨n.toNat, by omega⟩
    rw [Int.toNat_natCast]
    exact findE_ok h (by omega) (by omega)
end Go.Proofs.Ytidnkckfkgaooaa.Al
/- What is taken: how many are in use behind it; given back, all is as it was: plain. -/
namespace Go.Proofs.Ytidnkckfkgaooaa.Al
open Go.RowKit Go.Shelf Go.Proofs Go.Proofs.Ytidnkckfkgaooaa.Ext Go.Proofs.Ytidnkckfkgaooaa.Pure Go.Proofs.YtidnkckfkgaooaaW.PrintWords Go.Proofs.YtidnkckfkgaooaaW.PrintLast Go.Proofs.YtidnkckfkgaooaaW.PrintMore

theorem cov_cons (x : Int × Int) (r : List (Int × Int)) (i : Nat) : cov (x :: r) i = true ↔ (x.1 ≤ (i : Int) ∧ (i : Int) < x.1 + x.2) ∨ cov r i = true := by
  show ((decide (x.1 ≤ (i : Int)) && decide ((i : Int) < x.1 + x.2)) || cov r i) = true ↔ _
  rw [Bool.or_eq_true, Bool.and_eq_true, decide_eq_true_eq, decide_eq_true_eq]
theorem rise_cov : ∀ (L : List (Int × Int)) (e : Int) (i : Nat), RiseL L e → cov L i = true → e < (i : Int)
  | [], _, _, _, h => by cases h
  | x :: r, e, i, hr, h => by
    obtain ⟨h1, h2, h3⟩ := hr
    rcases (cov_cons x r i).1 h with h | h
    · omega
    · have := rise_cov r (x.1 + x.2) i h3 h
      omega
theorem cntF_set (f : Nat → Bool) (i : Nat) (hf : f i = false) : ∀ n, cntF (fun j => if j = i then true else f j) n = cntF f n + if i < n then 1 else 0
  | 0 => by simp [cntF]
  | n + 1 => by
    rw [cntF_succ, cntF_succ, cntF_set f i hf n]
    by_cases e : n = i
    · subst e
      rw [hf, if_neg (show ¬ n < n by omega), if_pos (show n < n + 1 by omega)]
      simp
    · simp only [if_neg e]
      by_cases h : i < n
      · rw [if_pos h, if_pos (show i < n + 1 by omega)]
        omega
      · rw [if_neg h, if_neg (show ¬ i < n + 1 by omega)]
        omega
theorem cntF_run (f : Nat → Bool) (F N : Nat) : ∀ m, F + m ≤ N → (∀ j, F ≤ j → j < F + m → f j = false) → cntF (fun i => if F ≤ i ∧ i < F + m then true else f i) N = cntF f N + m
  | 0, _, _ => by
    rw [cntF_congr (k := f) N (fun i _ => by rw [if_neg (by omega)])]
    rfl
  | m + 1, hm, hf => by
    have ih := cntF_run f F N m (by omega) (fun j h1 h2 => hf j h1 (by omega))
    have h2 := cntF_set (fun i => if F ≤ i ∧ i < F + m then true else f i) (F + m) (by rw [if_neg (by omega)]; exact hf (F + m) (by omega) (by omega)) N
    rw [ih, if_pos (show F + m < N by omega)] at h2
    rw [← show cntF f N + m + 1 = cntF f N + (m + 1) from by omega, ← h2]
    refine cntF_congr N fun i _ => ?_
    by_cases e : i = F + m
    · subst e
      rw [if_pos rfl, if_pos (by omega)]
    · rw [if_neg e]
      by_cases e2 : F ≤ i ∧ i < F + m
      · rw [if_pos e2, if_pos (by omega)]
      · rw [if_neg e2, if_neg (by omega)]
theorem set_count {N : Nat} : ∀ (L : List (Int × Int)) (e : Int) {s : ByteArray} {f : Nat → Bool}, Bits s N f → RiseL L e → (∀ x ∈ L, inE N x) → (∀ i, cov L i = true → f i = false) → (countN (setE true L s) : Int) = (countN s : Int) + sumE L
  | [], _, s, _, _, _, _, _ => by
    show (countN s : Int) = (countN s : Int) + 0
    omega
  | x :: r, e, s, f, h, hr, hL, hf => by
    obtain ⟨h1, h2, h3⟩ := hr
    have hx := hL x List.mem_cons_self
    unfold inE at hx
    obtain ⟨F, hF⟩ := Int.eq_ofNat_of_zero_le hx.1
    have hB := setN_bits h true F x.2.toNat (by omega)
    have ih := set_count r (x.1 + x.2) hB h3 (fun y hy => hL y (List.mem_cons_of_mem _ hy)) (fun i hi => by
      have := rise_cov r _ i h3 hi
      rw [if_neg (by omega)]
      exact hf i ((cov_cons x r i).2 (.inr hi)))
    show (countN (setE true r (setN true x.1 x.2.toNat s)) : Int) = (countN s : Int) + (x.2 + sumE r)
    rw [hF, ih, hB.count, h.count, cntF_run f F N x.2.toNat (by omega) (fun j hj1 hj2 => hf j ((cov_cons x r j).2 (.inl (by omega))))]
    omega
theorem TakeOk.count {s : ByteArray} {N : Nat} {n : Int} {f : Nat → Bool} {L : List (Int × Int)} (k : TakeOk f N n L) (h : Bits s N f) : (countN (setE true L s) : Int) = (countN s : Int) + n := by
  rw [set_count L (-1) h k.rise k.inN k.free, k.sum]
theorem give_back {N : Nat} : ∀ (L : List (Int × Int)) (e : Int) {s : ByteArray} {f : Nat → Bool}, Bits s N f → RiseL L e → (∀ x ∈ L, inE N x) → (∀ i, cov L i = true → f i = false) → giveE N L (setE true L s) = some s
  | [], _, s, _, _, _, _, _ => giveE_nil N s
  | x :: r, e, s, f, h, hr, hL, hf => by
    obtain ⟨h1, h2, h3⟩ := hr
    have hx := hL x List.mem_cons_self
    have hLr := fun y hy => hL y (List.mem_cons_of_mem x hy)
    unfold inE at hx
    obtain ⟨F, hF⟩ := Int.eq_ofNat_of_zero_le hx.1
    have ht := setE_bits true (x :: r) h hL
    have hr2 := setE_bits true r h hLr
    have hin : exIn N x ∧ exUsed (setE true (x :: r) s) x := by
      refine ⟨⟨by omega, by omega, by omega, by omega⟩, fun k hk => ?_⟩
      rw [hF, show ((F : Nat) : Int) + (k : Int) = ((F + k : Nat) : Int) from by omega, hasI_nat, ht.at _ (by omega), if_pos ((cov_cons x r _).2 (.inl (by omega)))]
    rw [giveE_step N hin]
    have he : setN false x.1 x.2.toNat (setE true (x :: r) s) = setE true r s := by
      rw [hF]
      refine (setN_bits ht false F x.2.toNat (by omega)).ext hr2 fun i _ => ?_
      by_cases c1 : F ≤ i ∧ i < F + x.2.toNat
      · rw [if_pos c1, if_neg (fun hi => by have := rise_cov r _ i h3 hi; omega)]
        exact (hf i ((cov_cons x r i).2 (.inl (by omega)))).symm
      · rw [if_neg c1]
        by_cases c2 : cov r i = true
        · rw [if_pos c2, if_pos ((cov_cons x r i).2 (.inr c2))]
        · rw [if_neg c2, if_neg (fun hi => by rcases (cov_cons x r i).1 hi with hi | hi; exact c1 (by omega); exact c2 hi)]
    rw [he]
    exact give_back r (x.1 + x.2) h h3 hLr (fun i hi => hf i ((cov_cons x r i).2 (.inr hi)))
theorem TakeOk.back {s : ByteArray} {N : Nat} {n : Int} {f : Nat → Bool} {L : List (Int × Int)} (k : TakeOk f N n L) (h : Bits s N f) : giveE N L (setE true L s) = some s :=
  give_back L (-1) h k.rise k.inN k.free
theorem TakeOk.not {s : ByteArray} {N : Nat} {n : Int} {f : Nat → Bool} {L : List (Int × Int)} (k : TakeOk f N n L) (h : Bits s N f) (hL : 0 < L.length) : giveE N L s = none := by
  cases L with
  | nil => simp at hL
  | cons x r =>
    have hx := k.inN x List.mem_cons_self
    unfold inE at hx
    obtain ⟨F, hF⟩ := Int.eq_ofNat_of_zero_le hx.1
    refine giveE_stop N (fun hh => ?_) r
    have h2 := hh.2 0 (by omega)
    rw [hF, show ((F : Nat) : Int) + ((0 : Nat) : Int) = ((F : Nat) : Int) from by omega, hasI_nat, h.at F (by omega), k.free F ((cov_cons x r F).2 (.inl (by omega)))] at h2
    cases h2
theorem TakeOk.bits {s : ByteArray} {N : Nat} {n : Int} {f : Nat → Bool} {L : List (Int × Int)} (k : TakeOk f N n L) (h : Bits s N f) : Bits (setE true L s) N (fun i => if cov L i = true then true else f i) := setE_bits true L h k.inN
end Go.Proofs.Ytidnkckfkgaooaa.Al
