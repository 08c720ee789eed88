/- The first blocks are taken: plain. -/
import Derived.Test.YtidnkckfkgaooaaAl22
namespace Go.Proofs.Ytidnkckfkgaooaa.Al
open Go.RowKit Go.Shelf Go.Proofs Go.Proofs.Ytidnkckfkgaooaa.Ext Go.Proofs.Ytidnkckfkgaooaa.Pure Go.Proofs.YtidnkckfkgaooaaW.PrintWords Go.Proofs.YtidnkckfkgaooaaW.PrintLast Go.Proofs.YtidnkckfkgaooaaW.PrintMore

theorem cntF_none : ∀ n, cntF (fun _ => false) n = 0
  | 0 => rfl
  | n + 1 => by rw [cntF_succ, cntF_none n]; rfl
theorem cntF_all : ∀ n, cntF (fun _ => true) n = n
  | 0 => rfl
  | n + 1 => by rw [cntF_succ, cntF_all n]; rfl
theorem cntF_lt (k : Nat) : ∀ n, cntF (fun i => decide (i < k)) n = min k n
  | 0 => by simp [cntF]
  | n + 1 => by
    rw [cntF_succ, cntF_lt k n]
    by_cases h : n < k
    · simp only [decide_eq_true h, if_true]
      omega
    · simp only [decide_eq_false h]
      simp
      omega
theorem cntF_odd : ∀ n, cntF (fun i => i % 2 == 1) n = n / 2
  | 0 => rfl
  | n + 1 => by
    rw [cntF_succ, cntF_odd n]
    by_cases h : n % 2 = 1
    · simp only [h]
      simp
      omega
    · have h0 : n % 2 = 0 := by omega
      simp only [h0]
      simp
      omega
theorem cov_one (F m i : Nat) : cov [((F : Int), (m : Int))] i = (decide (F ≤ i) && decide (i < F + m)) := by
  unfold cov cov
  rw [Bool.or_false, Bool.eq_iff_iff, Bool.and_eq_true, Bool.and_eq_true, decide_eq_true_eq, decide_eq_true_eq, decide_eq_true_eq, decide_eq_true_eq]
  simp only
  omega
/-- The first ones of none in use. -/
theorem first_take {s : ByteArray} {N k : Nat} (h : Bits s N (fun _ => false)) (h1 : 1 ≤ k) (h2 : k ≤ N) : takeL s N (k : Int) = [((0 : Int), (k : Int))] ∧ Bits (takeS s N (k : Int)) N (fun i => decide (i < k)) := by
  have hL : takeL s N (k : Int) = [((0 : Int), (k : Int))] := by
    unfold takeL
    rw [if_neg (by rw [h.count, cntF_none]; omega), Int.toNat_natCast]
    exact findE_first (a := 0) h1 (by omega) h.size8 (fun j hj => by rw [Nat.zero_add]; exact h.at j (by omega)) (fun p hp => by omega)
  refine ⟨hL, ?_⟩
  unfold takeS
  rw [hL]
  refine (setE_bits true _ h (fun x hx => ?_)).congr fun i _ => ?_
  · obtain rfl := List.mem_singleton.1 hx
    unfold inE
    simp only
    omega
  · rw [show (0 : Int) = ((0 : Nat) : Int) from rfl, cov_one]
    by_cases e : i < k
    · rw [if_pos (by simp [e])]
      simp [e]
    · rw [if_neg (by simp [e])]
      simp [e]
theorem second_take {s : ByteArray} {N k : Nat} (h : Bits s N (fun i => decide (i < k))) (h2 : k < N) : takeL s N ((N - k : Nat) : Int) = [((k : Int), ((N - k : Nat) : Int))] ∧ Bits (takeS s N ((N - k : Nat) : Int)) N (fun _ => true) := by
  have hL : takeL s N ((N - k : Nat) : Int) = [((k : Int), ((N - k : Nat) : Int))] := by
    unfold takeL
    rw [if_neg (by rw [h.count, cntF_lt]; omega), Int.toNat_natCast]
    refine findE_first (a := k) (by omega) (by omega) h.size8 (fun j hj => ?_) (fun p hp => ⟨0, by omega, ?_⟩)
    · rw [h.at _ (by omega), decide_eq_false (by omega)]
    · rw [Nat.add_zero, h.at _ (by omega), decide_eq_true hp]
  refine ⟨hL, ?_⟩
  unfold takeS
  rw [hL]
  refine (setE_bits true _ h (fun x hx => ?_)).congr fun i hi => ?_
  · obtain rfl := List.mem_singleton.1 hx
    unfold inE
    simp only
    omega
  · rw [cov_one]
    by_cases e : k ≤ i
    · rw [if_pos (by rw [decide_eq_true e, decide_eq_true (by omega)]; rfl)]
    · rw [if_neg (by rw [decide_eq_false e, Bool.false_and]; decide), decide_eq_true (by omega)]
/-- One block given back. -/
theorem give_one {s : ByteArray} {N i : Nat} {f : Nat → Bool} (h : Bits s N f) (hi : i < N) (hf : f i = true) : giveE N [((i : Int), 1)] s = some (setN false (i : Int) 1 s) ∧ Bits (setN false (i : Int) 1 s) N (fun x => if x = i then false else f x) := by
  refine ⟨?_, (setN_bits h false i 1 (by omega)).congr fun x _ => ?_⟩
  · rw [giveE_step N (is_in (f := (i : Int)) (m := 1) (by omega) ?_), giveE_nil]
    · rfl
    · intro k hk
      obtain rfl : k = 0 := by omega
      rw [show (i : Int) + ((0 : Nat) : Int) = (i : Int) from by omega, hasI_nat, h.at i hi, hf]
  · by_cases e : x = i
    · rw [if_pos (by omega), if_pos e]
    · rw [if_neg (by omega), if_neg e]
theorem free_two (s : ByteArray) (d i : Nat) (h0 : hasB s i = false) (h1 : hasB s (i + 1) = true) : freeFrom s (d + 1 + 1) i = i :: freeFrom s d (i + 2) := by
  rw [freeFrom_split, freeFrom_split, if_pos h0, if_neg (by rw [h1]; decide)]
  rfl
theorem free_evens {s : ByteArray} {N : Nat} (h : Bits s N (fun i => i % 2 == 1)) (hN : 20 ≤ N) : ∃ r, freeL s N = [0, 2, 4, 6, 8, 10, 12, 14, 16] ++ r := by
  obtain ⟨d, rfl⟩ : ∃ d, N = d + 18 := ⟨N - 18, by omega⟩
  refine ⟨freeFrom s d 18, ?_⟩
  unfold freeL
  have e : ∀ i, i < 20 → hasB s i = (i % 2 == 1) := fun i hi => h.at i (by omega)
  rw [free_two s (d + 16) 0 (e 0 (by omega)) (e 1 (by omega)), free_two s (d + 14) 2 (e 2 (by omega)) (e 3 (by omega)), free_two s (d + 12) 4 (e 4 (by omega)) (e 5 (by omega)), free_two s (d + 10) 6 (e 6 (by omega)) (e 7 (by omega)),
    free_two s (d + 8) 8 (e 8 (by omega)) (e 9 (by omega)), free_two s (d + 6) 10 (e 10 (by omega)) (e 11 (by omega)), free_two s (d + 4) 12 (e 12 (by omega)) (e 13 (by omega)), free_two s (d + 2) 14 (e 14 (by omega)) (e 15 (by omega)), free_two s d 16 (e 16 (by omega)) (e 17 (by omega))]
  rfl
theorem odd_rest {s : ByteArray} {N : Nat} (h : Bits s N (fun i => i % 2 == 1)) (n : Nat) (hn : 2 ≤ n) : ∀ a, a + n ≤ N → ∃ j, j < n ∧ hasB s (a + j) = true := by
  intro a ha
  refine ⟨1 - a % 2, by omega, ?_⟩
  rw [h.at _ (by omega)]
  show ((a + (1 - a % 2)) % 2 == 1) = true
  rw [show (a + (1 - a % 2)) % 2 = 1 from by omega]
  rfl
theorem pack9 : packE [0, 2, 4, 6, 8, 10, 12, 14, 16] = [(0, 1), (2, 1), (4, 1), (6, 1), (8, 1), (10, 1), (12, 1), (14, 1), (16, 1)] := by kernel_rfl
theorem pack8 : packE [0, 2, 4, 6, 8, 10, 12, 14] = [(0, 1), (2, 1), (4, 1), (6, 1), (8, 1), (10, 1), (12, 1), (14, 1)] := by kernel_rfl
theorem take_nine {s : ByteArray} {N : Nat} (h : Bits s N (fun i => i % 2 == 1)) (hN : 20 ≤ N) : takeL s N 9 = [] := by
  obtain ⟨r, hr⟩ := free_evens h hN
  unfold takeL
  rw [if_neg (by rw [h.count, cntF_odd]; omega), show (9 : Int).toNat = 9 from rfl, findE_rest (by omega) (odd_rest h 9 (by omega)), hr, List.take_append_of_le_length (by decide), show ([0, 2, 4, 6, 8, 10, 12, 14, 16] : List Nat).take 9 = [0, 2, 4, 6, 8, 10, 12, 14, 16] from rfl, pack9]
  rfl
theorem take_eight {s : ByteArray} {N : Nat} (h : Bits s N (fun i => i % 2 == 1)) (hN : 20 ≤ N) : takeL s N 8 = [(0, 1), (2, 1), (4, 1), (6, 1), (8, 1), (10, 1), (12, 1), (14, 1)] := by
  obtain ⟨r, hr⟩ := free_evens h hN
  unfold takeL
  rw [if_neg (by rw [h.count, cntF_odd]; omega), show (8 : Int).toNat = 8 from rfl, findE_rest (by omega) (odd_rest h 8 (by omega)), hr, List.take_append_of_le_length (by decide), show ([0, 2, 4, 6, 8, 10, 12, 14, 16] : List Nat).take 8 = [0, 2, 4, 6, 8, 10, 12, 14] from rfl, pack8]
  rfl
end Go.Proofs.Ytidnkckfkgaooaa.Al
