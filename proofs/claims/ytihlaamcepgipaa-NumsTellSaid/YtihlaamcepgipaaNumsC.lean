/- What the division of 128 bits by 64 comes to where the quotient is below 100, and the shares of any numbers. -/
import Derived.Test.YtihlaamcepgipaaNumsB
namespace Go.Proofs.Ytihlaamcepgipaa.Pure
open Go.RowKit Go.Proofs.Ytihlaamcepgipaa.Q Go.Proofs.YtihlaamcepgipaaW.PrintWords Go.Proofs.YtihlaamcepgipaaW.PrintLast Go.Proofs.YtihlaamcepgipaaW.PrintMore

/-- A number's length in bits, as a table of bytes tells it. -/
def lenTab : ByteArray := (⟨#[0, 1, 2, 2, 3, 3, 3, 3, 4, 4, 4, 4, 4, 4, 4, 4, 5, 5, 5, 5, 5, 5, 5, 5, 5, 5, 5, 5, 5, 5, 5, 5, 6, 6, 6, 6, 6, 6, 6, 6, 6, 6, 6, 6, 6, 6, 6, 6, 6, 6, 6, 6, 6, 6, 6, 6, 6, 6, 6, 6, 6, 6, 6, 6, 7, 7, 7, 7, 7, 7, 7, 7, 7, 7, 7, 7, 7, 7, 7, 7, 7, 7, 7, 7, 7, 7, 7, 7, 7, 7, 7, 7, 7, 7, 7, 7, 7, 7, 7, 7, 7, 7, 7, 7, 7, 7, 7, 7, 7, 7, 7, 7, 7, 7, 7, 7, 7, 7, 7, 7, 7, 7, 7, 7, 7, 7, 7, 7, 8, 8, 8, 8, 8, 8, 8, 8, 8, 8, 8, 8, 8, 8, 8, 8, 8, 8, 8, 8, 8, 8, 8, 8, 8, 8, 8, 8, 8, 8, 8, 8, 8, 8, 8, 8, 8, 8, 8, 8, 8, 8, 8, 8, 8, 8, 8, 8, 8, 8, 8, 8, 8, 8, 8, 8, 8, 8, 8, 8, 8, 8, 8, 8, 8, 8, 8, 8, 8, 8, 8, 8, 8, 8, 8, 8, 8, 8, 8, 8, 8, 8, 8, 8, 8, 8, 8, 8, 8, 8, 8, 8, 8, 8, 8, 8, 8, 8, 8, 8, 8, 8, 8, 8, 8, 8, 8, 8, 8, 8, 8, 8, 8, 8, 8, 8, 8, 8, 8, 8, 8, 8, 8, 8, 8, 8, 8, 8]⟩ : ByteArray)
theorem tab_ok : ∀ i : Fin 256, 1 ≤ i.val → ∃ L : Fin 9, bt lenTab (i.val : Int) = (L.val : Int) ∧ 1 ≤ L.val ∧ (2 : Nat) ^ (L.val - 1) ≤ i.val ∧ i.val < 2 ^ L.val := by decide +kernel

set_option maxRecDepth 100000 in
theorem len_j0 (k : Nat) (x0 x2 : Int) : bits_Len64.j0 (k + 1) x0 x2 = if x0 ≥ 65536 then (if (x0 / 65536) ≥ 256 then (if 0 ≤ (((x0 / 65536) / 256) % 256) then (if (((x0 / 65536) / 256) % 256) < 256 then (some (wrap64 ((wrap64 ((wrap64 (x2 + 16)) + 8)) + (wrap64 (bt lenTab (((x0 / 65536) / 256) % 256)))))) else (none)) else (none)) else (if 0 ≤ ((x0 / 65536) % 256) then (if ((x0 / 65536) % 256) < 256 then (some (wrap64 ((wrap64 (x2 + 16)) + (wrap64 (bt lenTab ((x0 / 65536) % 256)))))) else (none)) else (none))) else (if x0 ≥ 256 then (if 0 ≤ ((x0 / 256) % 256) then (if ((x0 / 256) % 256) < 256 then (some (wrap64 ((wrap64 (x2 + 8)) + (wrap64 (bt lenTab ((x0 / 256) % 256)))))) else (none)) else (none)) else (if 0 ≤ ((x0) % 256) then (if ((x0) % 256) < 256 then (some (wrap64 (x2 + (wrap64 (bt lenTab ((x0) % 256)))))) else (none)) else (none))) := by
  rw [bits_Len64.j0]; rfl

theorem tab_at (x : Int) (h1 : 1 ≤ x) (h2 : x < 256) : ∃ L : Nat, bt lenTab x = (L : Int) ∧ 1 ≤ L ∧ L ≤ 8 ∧ (2 : Int) ^ (L - 1) ≤ x ∧ x < 2 ^ L := by
  obtain ⟨L, e, l1, l2, l3⟩ := tab_ok ⟨x.toNat, by omega⟩ (by show 1 ≤ x.toNat; omega)
  have ex : ((x.toNat : Nat) : Int) = x := by omega
  refine ⟨L.val, ?_, l1, by have := L.isLt; omega, ?_, ?_⟩
  · rw [← e]; show _ = bt lenTab ((x.toNat : Nat) : Int); rw [ex]
  · have := Int.ofNat_le.2 l2
    rw [← ex]; simpa using this
  · have := Int.ofNat_lt.2 l3
    rw [← ex]; simpa using this

theorem len_ok (y : Int) (h1 : 1 ≤ y) (h2 : y < 18446744073709551616) : ∃ L : Nat, Ev (fun k => bits_Len64.f k y) (L : Int) ∧ 1 ≤ L ∧ L ≤ 64 ∧ (2 : Int) ^ (L - 1) ≤ y ∧ y < 2 ^ L := by
  -- one round, at a number below 2 to 32
  have low : ∀ (x : Int) (n : Nat), 1 ≤ x → x < 4294967296 → n ≤ 32 → ∃ L : Nat, (∀ k, bits_Len64.j0 (k + 1) x (n : Int) = some ((n + L : Nat) : Int)) ∧ 1 ≤ L ∧ L ≤ 32 ∧ (2 : Int) ^ (L - 1) ≤ x ∧ x < 2 ^ L := by
    intro x n x1 x2 hn
    have big : ∀ (m : Nat) (z : Int), m ≤ 24 → 1 ≤ z → z < 256 → x / 2 ^ m = z → ∃ L : Nat, bt lenTab z = (L : Int) ∧ 1 ≤ L ∧ L ≤ 8 ∧ (2 : Int) ^ (m + L - 1) ≤ x ∧ x < 2 ^ (m + L) := by
      intro m z _ z1 z2 hz
      obtain ⟨L, e, l1, l8, l2, l3⟩ := tab_at z z1 z2
      have pm : (0 : Int) < 2 ^ m := Int.pow_pos (by decide)
      have q1 := Int.mul_ediv_add_emod x (2 ^ m)
      have q2 := Int.emod_nonneg x (b := 2 ^ m) (by omega)
      have q3 := Int.emod_lt_of_pos x (b := 2 ^ m) pm
      rw [hz] at q1
      refine ⟨L, e, l1, l8, ?_, ?_⟩
      · have : (2 : Int) ^ (m + L - 1) = 2 ^ m * 2 ^ (L - 1) := by rw [← Int.pow_add, show m + (L - 1) = m + L - 1 from by omega]
        rw [this]
        have := Int.mul_le_mul_of_nonneg_left l2 (Int.le_of_lt pm)
        omega
      · have : (2 : Int) ^ (m + L) = 2 ^ m * 2 ^ L := Int.pow_add ..
        rw [this]
        have h : z + 1 ≤ 2 ^ L := l3
        have := Int.mul_le_mul_of_nonneg_left h (Int.le_of_lt pm)
        rw [Int.mul_add] at this
        omega
    by_cases c1 : x ≥ 65536
    · by_cases c2 : x / 65536 ≥ 256
      · obtain ⟨L, e, l1, l8, l2, l3⟩ := big 24 (x / 16777216) (by decide) (by omega) (by omega) (by rw [show (2 : Int) ^ 24 = 16777216 from by decide])
        have ez : x / 65536 / 256 % 256 = x / 16777216 := by omega
        refine ⟨24 + L, fun k => ?_, by omega, by omega, l2, l3⟩
        rw [len_j0]
        rw [if_pos c1, if_pos c2, ez, if_pos (by omega), if_pos (by omega)]
        rw [e, wrap64_id (a := (n : Int) + 16) (by unfold I64; omega), wrap64_id (a := (n : Int) + 16 + 8) (by unfold I64; omega), wrap64_id (a := (L : Int)) (by unfold I64; omega), wrap64_id (by unfold I64; omega)]
        exact congrArg some (by omega)
      · obtain ⟨L, e, l1, l8, l2, l3⟩ := big 16 (x / 65536) (by decide) (by omega) (by omega) (by rw [show (2 : Int) ^ 16 = 65536 from by decide])
        have ez : x / 65536 % 256 = x / 65536 := by omega
        refine ⟨16 + L, fun k => ?_, by omega, by omega, l2, l3⟩
        rw [len_j0]
        rw [if_pos c1, if_neg c2, ez, if_pos (by omega), if_pos (by omega)]
        rw [e, wrap64_id (a := (n : Int) + 16) (by unfold I64; omega), wrap64_id (a := (L : Int)) (by unfold I64; omega), wrap64_id (by unfold I64; omega)]
        exact congrArg some (by omega)
    · by_cases c2 : x ≥ 256
      · obtain ⟨L, e, l1, l8, l2, l3⟩ := big 8 (x / 256) (by decide) (by omega) (by omega) (by rw [show (2 : Int) ^ 8 = 256 from by decide])
        have ez : x / 256 % 256 = x / 256 := by omega
        refine ⟨8 + L, fun k => ?_, by omega, by omega, l2, l3⟩
        rw [len_j0]
        rw [if_neg c1, if_pos c2, ez, if_pos (by omega), if_pos (by omega)]
        rw [e, wrap64_id (a := (n : Int) + 8) (by unfold I64; omega), wrap64_id (a := (L : Int)) (by unfold I64; omega), wrap64_id (by unfold I64; omega)]
        exact congrArg some (by omega)
      · obtain ⟨L, e, l1, l8, l2, l3⟩ := tab_at x (by omega) (by omega)
        have ez : x % 256 = x := by omega
        refine ⟨L, fun k => ?_, by omega, by omega, l2, l3⟩
        rw [len_j0]
        rw [if_neg c1, if_neg c2, ez, if_pos (by omega), if_pos (by omega)]
        rw [e, wrap64_id (a := (L : Int)) (by unfold I64; omega), wrap64_id (by unfold I64; omega)]
        exact congrArg some (by omega)
  by_cases c : y ≥ 4294967296
  · obtain ⟨L, e, l1, l32, l2, l3⟩ := low (y / 4294967296) 32 (by omega) (by omega) (by decide)
    refine ⟨32 + L, ⟨1, fun k hk => ?_⟩, by omega, by omega, ?_, ?_⟩
    · obtain ⟨k, rfl⟩ : ∃ m, k = m + 1 := ⟨k - 1, by omega⟩
      show bits_Len64.f (k + 1) y = _
      unfold bits_Len64.f
      rw [if_pos c]
      exact e k
    · have : (2 : Int) ^ (32 + L - 1) = 4294967296 * 2 ^ (L - 1) := by
        rw [show 32 + L - 1 = 32 + (L - 1) by omega, Int.pow_add, show (2 : Int) ^ 32 = 4294967296 from by decide]
      rw [this]
      omega
    · have : (2 : Int) ^ (32 + L) = 4294967296 * 2 ^ L := by rw [Int.pow_add, show (2 : Int) ^ 32 = 4294967296 from by decide]
      rw [this]
      omega
  · obtain ⟨L, e, l1, l32, l2, l3⟩ := low y 0 (by omega) (by omega) (by decide)
    refine ⟨L, ⟨1, fun k hk => ?_⟩, by omega, by omega, l2, l3⟩
    obtain ⟨k, rfl⟩ : ∃ m, k = m + 1 := ⟨k - 1, by omega⟩
    show bits_Len64.f (k + 1) y = _
    unfold bits_Len64.f
    rw [if_neg c]
    simpa using e k

end Go.Proofs.Ytihlaamcepgipaa.Pure
