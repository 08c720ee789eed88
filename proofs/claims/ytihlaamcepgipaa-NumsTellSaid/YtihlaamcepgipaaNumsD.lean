/- The division of 128 bits by 64 where the quotient is below 100; what Share and its reference answer for any numbers. -/
import Derived.Test.YtihlaamcepgipaaNumsC
namespace Go.Proofs.Ytihlaamcepgipaa.Pure
open Go.RowKit Go.Proofs.Ytihlaamcepgipaa.Q Go.Proofs.YtihlaamcepgipaaW.PrintWords Go.Proofs.YtihlaamcepgipaaW.PrintLast Go.Proofs.YtihlaamcepgipaaW.PrintMore

theorem lt32 {x y : Int} (hx : 0 ≤ x ∧ x < 4294967296) (hy : 0 ≤ y ∧ y < 4294967296) : 0 ≤ x * y ∧ x * y ≤ 18446744065119617025 := by
  refine ⟨Int.mul_nonneg hx.1 hy.1, ?_⟩
  have := Int.mul_le_mul (show x ≤ 4294967295 by omega) (show y ≤ 4294967295 by omega) hy.1 (by decide : (0 : Int) ≤ 4294967295)
  omega

theorem low_loop (y s yn1 yn0 un0 un21 u Q : Int) (hs : 0 ≤ s) (hn1 : 2147483648 ≤ yn1 ∧ yn1 < 4294967296) (hn0 : 0 ≤ yn0 ∧ yn0 < 4294967296) (hu0 : 0 ≤ un0 ∧ un0 < 4294967296)
    (hy : y = yn1 * 4294967296 + yn0) (hu : u = un21 * 4294967296 + un0) (hQ : Q = u / y) (hQ0 : 0 ≤ Q) (d : Nat) : ∀ (q0 rhat : Int), q0.toNat ≤ d → 0 ≤ q0 ∧ q0 < 4294967296 → 0 ≤ rhat ∧ rhat < 4294967296 → un21 = q0 * yn1 + rhat → Q ≤ q0 →
    ∃ r, Ev (fun k => bits_Div64.l1 k y s yn1 yn0 un0 0 rhat un21 q0) (Q, r) := by
  have hy0 : 0 < y := by omega
  induction d with
  | zero =>
    intro q0 rhat hd hq hr he hle
    have hq0 : q0 = 0 := by omega
    subst hq0
    have hQ1 : Q = 0 := by omega
    refine ⟨shr .u64 (IntKind.u64.wrap ((IntKind.u64.wrap ((IntKind.u64.wrap (un21 * 4294967296)) + un0)) - (IntKind.u64.wrap (0 * y)))) s, ⟨2, fun k hk => ?_⟩⟩
    obtain ⟨k, rfl⟩ : ∃ m, k = m + 2 := ⟨k - 2, by omega⟩
    show bits_Div64.l1 (k + 1 + 1) _ _ _ _ _ _ _ _ _ = _
    simp only [bits_Div64.l1]
    rw [if_neg (by omega), Int.zero_mul, u64_id (a := 0) (by omega) (by omega), u64_id (a := 4294967296 * rhat) (by omega) (by omega), u64_id (a := 4294967296 * rhat + un0) (by omega) (by omega), decide_eq_false (by omega)]
    simp only [bits_Div64.j4]
    rw [if_neg (by simp), if_pos hs, hQ1]
    rfl
  | succ d ih =>
    intro q0 rhat hd hq hr he hle
    have p0 := lt32 hq hn0
    have p1 := lt32 hq ⟨by omega, hn1.2⟩
    have ey : q0 * y = q0 * yn1 * 4294967296 + q0 * yn0 := by rw [hy, Int.mul_add, Int.mul_assoc]
    by_cases c : q0 * yn0 > 4294967296 * rhat + un0
    · have hlt : Q ≤ q0 - 1 := by
        have : Q < q0 := by
          rw [hQ]
          apply Int.ediv_lt_of_lt_mul hy0
          rw [ey]
          omega
        omega
      have hq1 : 1 ≤ q0 := by omega
      have e1 : (q0 - 1) * yn1 = q0 * yn1 - yn1 := by rw [Int.sub_mul, Int.one_mul]
      have e0 : (q0 - 1) * yn0 = q0 * yn0 - yn0 := by rw [Int.sub_mul, Int.one_mul]
      by_cases c2 : rhat + yn1 ≥ 4294967296
      · -- it stops: one less is right
        have hfin : Q = q0 - 1 := by
          have ey1 : (q0 - 1) * y = q0 * y - y := by rw [Int.sub_mul, Int.one_mul]
          have p01 := lt32 (x := q0 - 1) ⟨by omega, by omega⟩ hn0
          have : q0 - 1 ≤ Q := by
            rw [hQ]
            apply (Int.le_ediv_iff_mul_le hy0).2
            rw [ey1, ey]
            omega
          omega
        refine ⟨shr .u64 (IntKind.u64.wrap ((IntKind.u64.wrap ((IntKind.u64.wrap (un21 * 4294967296)) + un0)) - (IntKind.u64.wrap ((IntKind.u64.wrap (q0 - 1)) * y)))) s, ⟨2, fun k hk => ?_⟩⟩
        obtain ⟨k, rfl⟩ : ∃ m, k = m + 2 := ⟨k - 2, by omega⟩
        show bits_Div64.l1 (k + 1 + 1) _ _ _ _ _ _ _ _ _ = _
        simp only [bits_Div64.l1]
        rw [if_neg (by omega), u64_id (a := q0 * yn0) (by omega) (by omega), u64_id (a := 4294967296 * rhat) (by omega) (by omega), u64_id (a := 4294967296 * rhat + un0) (by omega) (by omega), decide_eq_true c]
        simp only [bits_Div64.j4]
        rw [if_pos trivial, u64_id (a := rhat + yn1) (by omega) (by omega), if_pos c2, if_pos hs, u64_id (a := q0 - 1) (by omega) (by omega), Int.zero_mul, u64_id (a := 0) (by omega) (by omega), Int.zero_add, u64_id (a := q0 - 1) (by omega) (by omega), hfin]
      · obtain ⟨r, K, hK⟩ := ih (q0 - 1) (rhat + yn1) (by omega) (by omega) (by omega) (by omega) hlt
        refine ⟨r, ⟨K + 2, fun k hk => ?_⟩⟩
        obtain ⟨k, rfl⟩ : ∃ m, k = m + 2 := ⟨k - 2, by omega⟩
        have h := hK k (by omega)
        simp only at h
        show bits_Div64.l1 (k + 1 + 1) _ _ _ _ _ _ _ _ _ = _
        simp only [bits_Div64.l1]
        rw [if_neg (by omega), u64_id (a := q0 * yn0) (by omega) (by omega), u64_id (a := 4294967296 * rhat) (by omega) (by omega), u64_id (a := 4294967296 * rhat + un0) (by omega) (by omega), decide_eq_true c]
        simp only [bits_Div64.j4]
        rw [if_pos trivial, u64_id (a := rhat + yn1) (by omega) (by omega), if_neg c2, u64_id (a := q0 - 1) (by omega) (by omega)]
        exact h
    · have hfin : Q = q0 := by
        have : q0 ≤ Q := by
          rw [hQ]
          apply (Int.le_ediv_iff_mul_le hy0).2
          rw [ey]
          omega
        omega
      refine ⟨shr .u64 (IntKind.u64.wrap ((IntKind.u64.wrap ((IntKind.u64.wrap (un21 * 4294967296)) + un0)) - (IntKind.u64.wrap (q0 * y)))) s, ⟨2, fun k hk => ?_⟩⟩
      obtain ⟨k, rfl⟩ : ∃ m, k = m + 2 := ⟨k - 2, by omega⟩
      show bits_Div64.l1 (k + 1 + 1) _ _ _ _ _ _ _ _ _ = _
      simp only [bits_Div64.l1]
      rw [if_neg (by omega), u64_id (a := q0 * yn0) (by omega) (by omega), u64_id (a := 4294967296 * rhat) (by omega) (by omega), u64_id (a := 4294967296 * rhat + un0) (by omega) (by omega), decide_eq_false c]
      simp only [bits_Div64.j4]
      rw [if_neg (by simp), if_pos hs, Int.zero_mul, u64_id (a := 0) (by omega) (by omega), Int.zero_add, u64_id (a := q0) (by omega) (by omega), hfin]

theorem div64_ok (hi lo y : Int) (hhi : 0 < hi) (hy : hi < y) (hy1 : y < 18446744073709551616) (hlo : 0 ≤ lo) (hlo1 : lo < 18446744073709551616) (hq : hi * 18446744073709551616 + lo < 100 * y) :
    ∃ r, Ev (fun k => bits_Div64.f k hi lo y) ((hi * 18446744073709551616 + lo) / y, r) := by
  obtain ⟨L, hL, l1, l64, l2, l3⟩ := len_ok y (by omega) hy1
  -- how far it is moved
  obtain ⟨s, hs⟩ : ∃ s : Nat, s = 64 - L := ⟨_, rfl⟩
  have ps : (0 : Int) < 2 ^ s := Int.pow_pos (by decide)
  have pt : (0 : Int) < 2 ^ (64 - s) := Int.pow_pos (by decide)
  have e64 : (2 : Int) ^ (64 - s) * 2 ^ s = 18446744073709551616 := by rw [← Int.pow_add, show 64 - s + s = 64 from by omega]; decide
  have y1 : 9223372036854775808 ≤ y * 2 ^ s := by
    have h : (2 : Int) ^ (L - 1) * 2 ^ s = 9223372036854775808 := by rw [← Int.pow_add, show L - 1 + s = 63 from by omega]; decide
    have := Int.mul_le_mul_of_nonneg_right l2 (Int.le_of_lt ps)
    omega
  have y2 : y * 2 ^ s < 18446744073709551616 := by
    have h : (2 : Int) ^ L * 2 ^ s = 18446744073709551616 := by rw [← Int.pow_add, show L + s = 64 from by omega]; decide
    have := Int.mul_lt_mul_of_pos_right l3 ps
    omega
  have h1 : hi * 2 ^ s < 18446744073709551616 := by
    have := Int.mul_lt_mul_of_pos_right hy ps
    omega
  have h0 : 0 ≤ hi * 2 ^ s := Int.mul_nonneg (by omega) (by omega)
  have lo0 : 0 ≤ lo / 2 ^ (64 - s) := Int.ediv_nonneg hlo (by omega)
  have lo1 : lo / 2 ^ (64 - s) < 2 ^ s := by
    apply Int.ediv_lt_of_lt_mul pt
    rw [Int.mul_comm, e64]; exact hlo1
  have elo : lo * 2 ^ s / 18446744073709551616 = lo / 2 ^ (64 - s) := by
    rw [← e64, Int.mul_ediv_mul_of_pos_left _ _ ps]
  have mlo := Int.mul_ediv_add_emod (lo * 2 ^ s) 18446744073709551616
  rw [elo] at mlo
  have eor : Go.bits .or .u64 (hi * 2 ^ s) (lo / 2 ^ (64 - s)) = hi * 2 ^ s + lo / 2 ^ (64 - s) := by
    have hlt : lo / 2 ^ (64 - s) < 18446744073709551616 := by
      have := Int.ediv_le_self (2 ^ (64 - s)) hlo
      omega
    rw [u64_or _ _ h0 h1 lo0 hlt, nat_join s]
    · omega
    · have e1 : (hi * 2 ^ s).toNat = hi.toNat * 2 ^ s := by
        rw [Int.toNat_mul (by omega) (Int.le_of_lt ps), Int.toNat_pow_of_nonneg (by decide)]; rfl
      rw [e1, Nat.mul_mod_left]
    · have : ((lo / 2 ^ (64 - s)).toNat : Int) < ((2 ^ s : Nat) : Int) := by
        rw [Int.toNat_of_nonneg lo0]; simpa using lo1
      exact Int.ofNat_lt.1 this
  have eU : (hi * 18446744073709551616 + lo) * 2 ^ s = (hi * 2 ^ s + lo / 2 ^ (64 - s)) * 18446744073709551616 + lo * 2 ^ s % 18446744073709551616 := by
    have a1 : hi * 18446744073709551616 * 2 ^ s = hi * 2 ^ s * 18446744073709551616 := by rw [Int.mul_assoc, Int.mul_comm 18446744073709551616, ← Int.mul_assoc]
    rw [Int.add_mul, a1, Int.add_mul]
    omega
  have eQ : (hi * 18446744073709551616 + lo) / y = (hi * 18446744073709551616 + lo) * 2 ^ s / (y * 2 ^ s) := (Int.mul_ediv_mul_of_pos_left _ _ ps).symm
  have bU : (hi * 18446744073709551616 + lo) * 2 ^ s < 100 * (y * 2 ^ s) := by
    have := Int.mul_lt_mul_of_pos_right hq ps
    rw [Int.mul_assoc 100] at this
    exact this
  have nU : 0 ≤ (hi * 18446744073709551616 + lo) * 2 ^ s := Int.mul_nonneg (by omega) (by omega)
  rw [eQ]
  have l0m := Int.emod_nonneg (lo * 2 ^ s) (b := 18446744073709551616) (by decide)
  have l1m := Int.emod_lt_of_pos (lo * 2 ^ s) (b := 18446744073709551616) (by decide)
  -- what the code computes
  have t1 : wrap64 (64 - (L : Int)) = (s : Int) := by rw [wrap64_id (by unfold I64; omega)]; omega
  have t2 : IntKind.u64.wrap (s : Int) = (s : Int) := u64_id (by omega) (by omega)
  have t3 : IntKind.u64.wrap (64 - (s : Int)) = ((64 - s : Nat) : Int) := by rw [u64_id (by omega) (by omega)]; omega
  have t4 : shl .u64 y (s : Int) = y * 2 ^ s := by
    unfold shl
    rw [Int.toNat_natCast, show min s IntKind.u64.bits = s from by simp only [IntKind.bits]; omega, u64_id (by omega) y2]
  have t5 : shl .u64 hi (s : Int) = hi * 2 ^ s := by
    unfold shl
    rw [Int.toNat_natCast, show min s IntKind.u64.bits = s from by simp only [IntKind.bits]; omega, u64_id h0 h1]
  have t6 : shr .u64 lo ((64 - s : Nat) : Int) = lo / 2 ^ (64 - s) := by
    unfold shr
    rw [Int.toNat_natCast, show min (64 - s) IntKind.u64.bits = 64 - s from by simp only [IntKind.bits]; omega]
  have t7 : shl .u64 lo (s : Int) = lo * 2 ^ s % 18446744073709551616 := by
    unfold shl
    rw [Int.toNat_natCast, show min s IntKind.u64.bits = s from by simp only [IntKind.bits]; omega, IntKind.wrap_u64]
  generalize hi * 2 ^ s + lo / 2 ^ (64 - s) = un32 at *
  generalize lo * 2 ^ s % 18446744073709551616 = un10 at *
  generalize (hi * 18446744073709551616 + lo) * 2 ^ s = U at *
  generalize y * 2 ^ s = z at *
  have b32 : 0 ≤ un32 ∧ un32 < 100 := by omega
  have hQ0 : 0 ≤ U / z := Int.ediv_nonneg nU (by omega)
  have a1 := and32 z (by omega) (by omega)
  have a2 := and32 un10 (by omega) (by omega)
  obtain ⟨yn1, hn1⟩ : ∃ v, v = z / 4294967296 := ⟨_, rfl⟩
  obtain ⟨yn0, hn0⟩ : ∃ v, v = z % 4294967296 := ⟨_, rfl⟩
  obtain ⟨un1, hu1⟩ : ∃ v, v = un10 / 4294967296 := ⟨_, rfl⟩
  obtain ⟨un0, hu0⟩ : ∃ v, v = un10 % 4294967296 := ⟨_, rfl⟩
  have g1 : 2147483648 ≤ yn1 ∧ yn1 < 4294967296 := by omega
  have g0 : 0 ≤ yn0 ∧ yn0 < 4294967296 := by omega
  have gu : 0 ≤ un0 ∧ un0 < 4294967296 := by omega
  have gu1 : 0 ≤ un1 ∧ un1 < 4294967296 := by omega
  have ez : z = yn1 * 4294967296 + yn0 := by omega
  have eu : U = (un32 * 4294967296 + un1) * 4294967296 + un0 := by omega
  obtain ⟨un21, h21⟩ : ∃ v, v = un32 * 4294967296 + un1 := ⟨_, rfl⟩
  have q1 := Int.mul_ediv_add_emod un21 yn1
  have q2 := Int.emod_nonneg un21 (b := yn1) (by omega)
  have q3 := Int.emod_lt_of_pos un21 (b := yn1) (by omega)
  have q4 : 0 ≤ un21 / yn1 := Int.ediv_nonneg (by omega) (by omega)
  have q5 : un21 / yn1 < 4294967296 := by
    apply Int.ediv_lt_of_lt_mul (by omega)
    omega
  have q6 : U / z ≤ un21 / yn1 := by
    apply (Int.le_ediv_iff_mul_le (by omega)).2
    have m1 := Int.ediv_mul_le U (b := z) (by omega)
    have m2 : U / z * z = U / z * yn1 * 4294967296 + U / z * yn0 := by rw [ez, Int.mul_add, Int.mul_assoc]
    have m3 : 0 ≤ U / z * yn0 := Int.mul_nonneg hQ0 g0.1
    omega
  obtain ⟨r, K, hK⟩ := low_loop z (s : Int) yn1 yn0 un0 un21 U (U / z) (by omega) g1 g0 gu ez (by omega) rfl hQ0 (un21 / yn1).toNat (un21 / yn1) (un21 - un21 / yn1 * yn1) (Nat.le_refl _) ⟨q4, q5⟩
    (by rw [Int.mul_comm]; omega) (by omega) q6
  obtain ⟨K2, hK2⟩ := hL
  refine ⟨r, ⟨K + K2 + 3, fun k hk => ?_⟩⟩
  obtain ⟨k, rfl⟩ : ∃ m, k = m + 3 := ⟨k - 3, by omega⟩
  have h := hK k (by omega)
  have hl := hK2 (k + 3) (by omega)
  simp only at h hl
  show bits_Div64.f (k + 3) hi lo y = _
  unfold bits_Div64.f bits_LeadingZeros64.f
  have q7 : 0 ≤ un21 / yn1 * yn1 ∧ un21 / yn1 * yn1 ≤ un21 := by rw [Int.mul_comm]; refine ⟨Int.mul_nonneg (by omega) q4, by omega⟩
  rw [if_neg (by omega), if_neg (by omega), if_neg (by omega), hl, Option.bind_some, Option.bind_some, t1, t2, t3, if_pos (by omega), if_pos (by omega), t4, t5, t6, t7, eor, a1, a2, ← hn1, ← hn0, ← hu1, ← hu0, if_neg (by omega),
    Int.tdiv_eq_ediv_of_nonneg b32.1, Int.ediv_eq_zero_of_lt b32.1 (by omega), u64_id (a := 0) (by decide) (by decide), Int.zero_mul, u64_id (a := 0) (by decide) (by decide), Int.sub_zero, u64_id (a := un32) (by omega) (by omega)]
  simp only [bits_Div64.l0]
  rw [if_neg (by decide), Int.zero_mul, u64_id (a := 0) (by decide) (by decide), u64_id (a := 4294967296 * un32) (by omega) (by omega), u64_id (a := 4294967296 * un32 + un1) (by omega) (by omega), decide_eq_false (by omega)]
  simp only [bits_Div64.j1]
  rw [if_neg (by simp)]
  simp only [bits_Div64.j2]
  rw [if_neg (by omega), Int.zero_mul, u64_id (a := 0) (by decide) (by decide), u64_id (a := un32 * 4294967296) (by omega) (by omega), u64_id (a := un32 * 4294967296 + un1) (by omega) (by omega), Int.sub_zero, ← h21, u64_id (a := un21) (by omega) (by omega),
    Int.tdiv_eq_ediv_of_nonneg (by omega), u64_id (a := un21 / yn1) q4 (by omega), u64_id (a := un21 / yn1 * yn1) q7.1 (by omega), u64_id (a := un21 - un21 / yn1 * yn1) (by omega) (by omega)]
  exact h

theorem share_ok (p w : Int) (hp : I64 p) (hw : I64 w) : Ev (fun k => nums_Share.f k p w) (shareS p w) := by
  by_cases hs : p < 4294967296
  · exact share_small p w hp.1 hs hw
  · by_cases h3 : w < 1 ∨ p < 0 ∨ w ≤ p
    · refine ⟨1, fun k hk => ?_⟩
      obtain ⟨k, rfl⟩ : ∃ m, k = m + 1 := ⟨k - 1, by omega⟩
      show nums_Share.f (k + 1) p w = _
      unfold nums_Share.f shareS
      by_cases h1 : w < 1
      · rw [if_pos h1, if_pos (.inl h1)]
        simp [nums_Share.j0]
      · rw [if_neg h1, if_neg (by omega), if_pos (by omega)]
        simp only [nums_Share.j0]
        rw [if_neg (by simp; omega), if_pos (by omega)]
    · unfold I64 at hp hw
      have hS : shareS p w = p * 100 / w := by unfold shareS; rw [if_neg (by omega), if_neg (by omega)]
      have b0 : 0 ≤ p * 100 / w := Int.ediv_nonneg (by omega) (by omega)
      have b1 : p * 100 / w < 100 := by
        apply Int.ediv_lt_of_lt_mul (by omega)
        omega
      have e0 := Int.mul_ediv_add_emod (p * 100) 18446744073709551616
      have main : ∃ r, Ev (fun k => bits_Div64.f k (p * 100 / 18446744073709551616) (p * 100 % 18446744073709551616) w) (p * 100 / w, r) := by
        by_cases hz : p * 100 / 18446744073709551616 = 0
        · refine ⟨p * 100 % w, ⟨0, fun k _ => ?_⟩⟩
          show bits_Div64.f k (p * 100 / 18446744073709551616) (p * 100 % 18446744073709551616) w = _
          rw [hz]
          have : p * 100 % 18446744073709551616 = p * 100 := by omega
          rw [this]
          exact div64_small (p * 100) w (by omega) (by omega) (by omega) (by omega) k
        · have := div64_ok (p * 100 / 18446744073709551616) (p * 100 % 18446744073709551616) w (by omega) (by omega) (by omega) (by omega) (by omega) (by omega)
          rw [Int.mul_comm (p * 100 / 18446744073709551616), e0] at this
          exact this
      obtain ⟨r, K, hK⟩ := main
      refine ⟨K + 1, fun k hk => ?_⟩
      obtain ⟨k, rfl⟩ : ∃ m, k = m + 1 := ⟨k - 1, by omega⟩
      have h := hK k (by omega)
      simp only at h
      show nums_Share.f (k + 1) p w = _
      unfold nums_Share.f
      rw [if_neg (by omega)]
      simp only [nums_Share.j0]
      rw [if_neg (by simp; omega), if_neg (by omega), u64_id (a := p) (by omega) (by omega), mul64_ok p 100 (by omega) (by omega) (by decide) (by decide), Option.bind_some, u64_id (a := w) (by omega) (by omega)]
      show (bits_Div64.f k (p * 100 / 18446744073709551616) (p * 100 % 18446744073709551616) w).bind _ = _
      rw [h, Option.bind_some, hS]
      show some (wrap64 (p * 100 / w)) = _
      rw [wrap64_id (by unfold I64; omega)]

theorem tenth_loop (p w : Int) (hp : 0 ≤ p) (hpw : p < w) (hw : w ≤ 9223372036854775807) (d : Nat) : ∀ (i : Nat) (n rest : Int), i + d = 10 → 0 ≤ n → n ≤ i → 0 ≤ rest → rest < w → n * w + rest = i * p →
    Ev (fun k => lighterref01_tenth.l0 k p w n rest (i : Int)) (10 * p / w, 10 * p % w) := by
  induction d with
  | zero =>
    intro i n rest hi n0 n1 r0 r1 he
    obtain rfl : i = 10 := by omega
    refine ⟨1, fun k hk => ?_⟩
    obtain ⟨k, rfl⟩ : ∃ m, k = m + 1 := ⟨k - 1, by omega⟩
    show lighterref01_tenth.l0 (k + 1) _ _ _ _ _ = _
    simp only [lighterref01_tenth.l0]
    have e : ((10 : Nat) : Int) = 10 := rfl
    rw [e] at he
    rw [if_neg (by decide), wrap64_id (a := rest) (by unfold I64; omega), ← he]
    have a1 : (n * w + rest) / w = n := by
      rw [Int.add_comm, Int.add_mul_ediv_right _ _ (by omega), Int.ediv_eq_zero_of_lt r0 r1]; omega
    have a2 : (n * w + rest) % w = rest := by
      rw [Int.add_comm, Int.add_mul_emod_self_right, Int.emod_eq_of_lt r0 r1]
    rw [a1, a2]
  | succ d ih =>
    intro i n rest hi n0 n1 r0 r1 he
    have e1 : wrap64 ((i : Int) + 1) = ((i + 1 : Nat) : Int) := wrap_succ i (by omega)
    have e2 : ((i + 1 : Nat) : Int) * p = i * p + p := by rw [Int.natCast_add, Int.add_mul]; omega
    have e3 : (n + 1) * w = n * w + w := by rw [Int.add_mul]; omega
    by_cases c : rest + p ≥ w
    · obtain ⟨K, hK⟩ := ih (i + 1) (n + 1) (rest + p - w) (by omega) (by omega) (by omega) (by omega) (by omega) (by omega)
      refine ⟨K + 1, fun k hk => ?_⟩
      obtain ⟨k, rfl⟩ : ∃ m, k = m + 1 := ⟨k - 1, by omega⟩
      have h := hK k (by omega)
      simp only at h
      show lighterref01_tenth.l0 (k + 1) _ _ _ _ _ = _
      simp only [lighterref01_tenth.l0]
      rw [if_pos (by omega), u64_id (a := p) (by omega) (by omega), u64_id (a := rest + p) (by omega) (by omega), u64_id (a := w) (by omega) (by omega), if_pos c, u64_id (a := rest + p - w) (by omega) (by omega), wrap64_id (a := n + 1) (by unfold I64; omega), e1]
      exact h
    · obtain ⟨K, hK⟩ := ih (i + 1) n (rest + p) (by omega) (by omega) (by omega) (by omega) (by omega) (by omega)
      refine ⟨K + 1, fun k hk => ?_⟩
      obtain ⟨k, rfl⟩ : ∃ m, k = m + 1 := ⟨k - 1, by omega⟩
      have h := hK k (by omega)
      simp only at h
      show lighterref01_tenth.l0 (k + 1) _ _ _ _ _ = _
      simp only [lighterref01_tenth.l0]
      rw [if_pos (by omega), u64_id (a := p) (by omega) (by omega), u64_id (a := rest + p) (by omega) (by omega), u64_id (a := w) (by omega) (by omega), if_neg c, e1]
      exact h

theorem refShare_ok (p w : Int) (hp : I64 p) (hw : I64 w) : Ev (fun k => lighterref01_Share.f k p w) (shareS p w) := by
  unfold I64 at hp hw
  by_cases h3 : w < 1 ∨ p < 0 ∨ w ≤ p
  · refine ⟨1, fun k hk => ?_⟩
    obtain ⟨k, rfl⟩ : ∃ m, k = m + 1 := ⟨k - 1, by omega⟩
    show lighterref01_Share.f (k + 1) p w = _
    unfold lighterref01_Share.f shareS
    by_cases h1 : w < 1
    · rw [if_pos h1, if_pos (.inl h1)]
      simp [lighterref01_Share.j0]
    · rw [if_neg h1]
      by_cases h2 : p < 0
      · rw [if_pos (.inr h2)]
        simp [lighterref01_Share.j0, h2]
      · rw [if_neg (by omega), if_pos (by omega)]
        simp only [lighterref01_Share.j0]
        rw [if_neg (by simp; omega), if_pos (by omega)]
  · have m0 := Int.emod_nonneg (10 * p) (b := w) (by omega)
    have m1 := Int.emod_lt_of_pos (10 * p) (b := w) (by omega)
    obtain ⟨K1, hK1⟩ := tenth_loop p w (by omega) (by omega) (by omega) 10 0 0 0 rfl (by omega) (by omega) (by omega) (by omega) (by simp)
    obtain ⟨K2, hK2⟩ := tenth_loop (10 * p % w) w m0 m1 (by omega) 10 0 0 0 rfl (by omega) (by omega) (by omega) (by omega) (by simp)
    have hS : shareS p w = p * 100 / w := by unfold shareS; rw [if_neg (by omega), if_neg (by omega)]
    have d1 : 10 * p / w < 10 := by
      apply Int.ediv_lt_of_lt_mul (by omega)
      omega
    have d2 : 10 * (10 * p % w) / w < 10 := by
      apply Int.ediv_lt_of_lt_mul (by omega)
      omega
    have d3 : 0 ≤ 10 * p / w := Int.ediv_nonneg (by omega) (by omega)
    have d4 : 0 ≤ 10 * (10 * p % w) / w := Int.ediv_nonneg (by omega) (by omega)
    have e : p * 100 / w = 10 * (10 * p / w) + 10 * (10 * p % w) / w := by
      have q := Int.mul_ediv_add_emod (10 * p) w
      have e1 : p * 100 = 10 * (10 * p % w) + 10 * (10 * p / w) * w := by
        have : 10 * (10 * p / w) * w = 10 * (w * (10 * p / w)) := by rw [Int.mul_assoc, Int.mul_comm w]
        rw [this]
        omega
      rw [e1, Int.add_mul_ediv_right _ _ (by omega), Int.add_comm]
    refine ⟨K1 + K2 + 1, fun k hk => ?_⟩
    obtain ⟨k, rfl⟩ : ∃ m, k = m + 1 := ⟨k - 1, by omega⟩
    have h1 := hK1 k (by omega)
    have h2 := hK2 k (by omega)
    show lighterref01_Share.f (k + 1) p w = _
    unfold lighterref01_Share.f
    rw [if_neg (by omega)]
    simp only [lighterref01_Share.j0, lighterref01_tenth.f]
    rw [if_neg (by simp; omega), if_neg (by omega)]
    have h1' : lighterref01_tenth.l0 k p w 0 0 0 = some (10 * p / w, 10 * p % w) := h1
    have h2' : lighterref01_tenth.l0 k (10 * p % w) w 0 0 0 = some (10 * (10 * p % w) / w, 10 * (10 * p % w) % w) := h2
    rw [h1', Option.bind_some, h2', Option.bind_some]
    show some (wrap64 (wrap64 (10 * (10 * p / w)) + 10 * (10 * p % w) / w)) = _
    rw [wrap64_id (a := 10 * (10 * p / w)) (by unfold I64; omega), wrap64_id (by unfold I64; omega), hS, e]

end Go.Proofs.Ytihlaamcepgipaa.Pure
