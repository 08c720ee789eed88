/- What the small functions of package sha, and of its reference, come to: numbers turned down, a round. -/
import Derived.Lib.Hide
import Derived.Outline
import Derived.Laws.BitsAllLaws
import Derived.Test.YtegjphfkkafomaaDoorQ1
namespace Go.Proofs.YtegjphfkkafomaaDoor.Sha
open Go.RowKit Go.Proofs Go.Proofs.YtegjphfkkafomaaDoor.Q Go.Proofs.YtegjphfkkafomaaDoorW.PrintWords Go.Proofs.YtegjphfkkafomaaDoorW.PrintLast Go.Proofs.YtegjphfkkafomaaDoorW.PrintMore

/-- A number of 32 bits turned down. -/
def rot (x : Int) (k : Nat) : Int := x / 2 ^ k + x * 2 ^ (32 - k) % 4294967296

theorem rot_nat (x k : Nat) : rot (x : Int) k = ((x / 2 ^ k + x * 2 ^ (32 - k) % 4294967296 : Nat) : Int) := by
  unfold rot
  rw [Int.natCast_add, Int.natCast_emod, Int.natCast_mul, Int.natCast_ediv, Int.natCast_pow, Int.natCast_pow]
  rfl
theorem rot_parts (x k : Nat) (hx : x < 4294967296) (hk : k ≤ 31) : x / 2 ^ k < 2 ^ (32 - k) ∧ x * 2 ^ (32 - k) % 4294967296 % 2 ^ (32 - k) = 0 ∧ x / 2 ^ k + x * 2 ^ (32 - k) % 4294967296 < 4294967296 := by
  have e : 2 ^ (32 - k) * 2 ^ k = 4294967296 := by rw [← Nat.pow_add, show 32 - k + k = 32 from by omega]
  have p : 0 < 2 ^ (32 - k) := Nat.pow_pos (by decide)
  have h1 : x / 2 ^ k < 2 ^ (32 - k) := by
    rw [Nat.div_lt_iff_lt_mul (Nat.pow_pos (by decide)), e]
    exact hx
  have e2 : x * 2 ^ (32 - k) % 4294967296 = x % 2 ^ k * 2 ^ (32 - k) := by
    rw [← e, Nat.mul_comm (2 ^ (32 - k)) (2 ^ k), Nat.mul_mod_mul_right]
  refine ⟨h1, by rw [e2, Nat.mul_mod_left], ?_⟩
  rw [e2]
  have h3 : x % 2 ^ k ≤ 2 ^ k - 1 := by have := Nat.mod_lt x (show 0 < 2 ^ k from Nat.pow_pos (by decide)); omega
  have h4 : x % 2 ^ k * 2 ^ (32 - k) ≤ (2 ^ k - 1) * 2 ^ (32 - k) := Nat.mul_le_mul_right _ h3
  rw [Nat.sub_mul, Nat.mul_comm (2 ^ k), e, Nat.one_mul] at h4
  have h5 : 2 ^ (32 - k) ≤ 4294967296 := by rw [← e]; exact Nat.le_mul_of_pos_right _ (Nat.pow_pos (by decide))
  generalize x % 2 ^ k * 2 ^ (32 - k) = y at *
  generalize x / 2 ^ k = z at *
  generalize 2 ^ (32 - k) = p at *
  omega

theorem rot_range (x : Int) (k : Nat) (hx : 0 ≤ x) (hx1 : x < 4294967296) (hk : k ≤ 31) : 0 ≤ rot x k ∧ rot x k < 4294967296 := by
  obtain ⟨n, rfl⟩ := Int.eq_ofNat_of_zero_le hx
  rw [rot_nat]
  have := (rot_parts n k (by omega) hk).2.2
  generalize n / 2 ^ k + n * 2 ^ (32 - k) % 4294967296 = y at this
  omega

theorem down_eq (x : Int) (k : Nat) (hx : 0 ≤ x) (hx1 : x < 4294967296) (hk : 1 ≤ k) (hk1 : k ≤ 31) : sha_down.f x (k : Int) = some (rot x k) := by
  obtain ⟨n, rfl⟩ := Int.eq_ofNat_of_zero_le hx
  unfold sha_down.f bits_RotateLeft32.f
  have e1 : Go.bits .and .u64 (IntKind.u64.wrap (wrap64 (-(k : Int)))) 31 = ((32 - k : Nat) : Int) := by
    have h : wrap64 (-(k : Int)) = -(k : Int) := by unfold wrap64; omega
    rw [h, IntKind.wrap_u64, u64_and _ 31 (by omega) (by omega) (by decide) (by decide), show (31 : Int).toNat = 2 ^ 5 - 1 from rfl, Nat.and_two_pow_sub_one_eq_mod]
    omega
  have e2 : IntKind.u64.wrap (32 - ((32 - k : Nat) : Int)) = (k : Int) := by rw [IntKind.wrap_u64]; omega
  obtain ⟨h1, h2, h3⟩ := rot_parts n k (by omega) hk1
  rw [e1, e2, if_pos (by omega), if_pos (by omega), Option.bind_some]
  congr 1
  have e3 : shl .u32 (n : Int) ((32 - k : Nat) : Int) = ((n * 2 ^ (32 - k) % 4294967296 : Nat) : Int) := by
    unfold shl
    rw [Int.toNat_natCast, show min (32 - k) IntKind.u32.bits = 32 - k from by simp only [IntKind.bits]; omega, IntKind.wrap_u32, Int.natCast_emod, Int.natCast_mul, Int.natCast_pow]
    rfl
  have e4 : shr .u32 (n : Int) (k : Int) = ((n / 2 ^ k : Nat) : Int) := by
    unfold shr
    rw [Int.toNat_natCast, show min k IntKind.u32.bits = k from by simp only [IntKind.bits]; omega, Int.natCast_ediv, Int.natCast_pow]
    rfl
  rw [e3, e4, rot_nat, u32_or_nat _ _ (by omega) (by omega), nat_join (32 - k) _ _ h2 h1]
  omega

/-- down: at the numbers that the code names. -/
theorem down_calls (x : Int) (k : Nat) (w : World) (hx : 0 ≤ x) (hx1 : x < 4294967296) (hk : 1 ≤ k) (hk1 : k ≤ 31) :
    Calls Tryd.prog 35 #[.int .u32 x, .int .i64 (k : Int)] w fun e w' => e = .returned (.int .u32 (rot x k)) ∧ ∃ n, w' = w.drewN n :=
  (sha_down.calls x k (rot x k) w (down_eq x k hx hx1 hk hk1)).mono fun _ _ h => ⟨h.1, h.2.out⟩

theorem down_quiet (x : Int) (k : Nat) (w : World) (m : Nat) (hx : 0 ≤ x) (hx1 : x < 4294967296) (hk : 1 ≤ k) (hk1 : k ≤ 31) :
    Calls Tryd.prog 35 #[.int .u32 x, .int .i64 (k : Int)] (w.drewN m) fun e w' => e = .returned (.int .u32 (rot x k)) ∧ ∃ n, w' = w.drewN n :=
  Calls.quiet_of (down_calls x k _ hx hx1 hk hk1)

theorem down_add (x : Int) (k : Nat) (w : World) (a m : Nat) (hx : 0 ≤ x) (hx1 : x < 4294967296) (hk : 1 ≤ k) (hk1 : k ≤ 31) :
    Calls Tryd.prog 35 #[.int .u32 x, .int .i64 (k : Int)] (w.drewN (a + m)) fun e w' => e = .returned (.int .u32 (rot x k)) ∧ ∃ n, w' = w.drewN (a + n) :=
  (down_calls x k _ hx hx1 hk hk1).mono fun _ _ ⟨he, n, hn⟩ => ⟨he, m + n, by rw [hn, World.drewN_drewN, Nat.add_assoc]⟩

/-- r of the reference. -/
theorem r_calls (x : Int) (k : Nat) (w : World) (hx : 0 ≤ x) (hx1 : x < 4294967296) (hk : 1 ≤ k) (hk1 : k ≤ 31) :
    Calls Tryd.prog 31 #[.int .u32 x, .int .u32 (k : Int)] w fun e w' => e = .returned (.int .u32 (rot x k)) ∧ w' = w := by
  have hk0 : 1 ≤ (k : Int) := by omega
  have hk2 : (k : Int) ≤ 31 := by omega
  have hk3 : 0 ≤ (k : Int) := by omega
  go_enter Tryd.func31, Tryd.ntmps31
  go_wp2
  go_ret
  have hr := rot_range x k hx hx1 hk1
  unfold rot at hr
  rw [Int.emod_eq_of_lt hr.1 hr.2]
  exact ⟨rfl, rfl⟩

theorem r_quiet (x : Int) (k : Nat) (w : World) (m : Nat) (hx : 0 ≤ x) (hx1 : x < 4294967296) (hk : 1 ≤ k) (hk1 : k ≤ 31) :
    Calls Tryd.prog 31 #[.int .u32 x, .int .u32 (k : Int)] (w.drewN m) fun e w' => e = .returned (.int .u32 (rot x k)) ∧ ∃ n, w' = w.drewN n :=
  Calls.quiet_of_same (r_calls x k _ hx hx1 hk hk1)

/-- A number is one of 32 bits. -/
def U32 (x : Int) : Prop := 0 ≤ x ∧ x < 4294967296
/-- Eight numbers. -/
structure St where
  a : Int
  b : Int
  c : Int
  d : Int
  e : Int
  f : Int
  g : Int
  h : Int
def St.ok (s : St) : Prop := U32 s.a ∧ U32 s.b ∧ U32 s.c ∧ U32 s.d ∧ U32 s.e ∧ U32 s.f ∧ U32 s.g ∧ U32 s.h
/-- As a value. -/
def St.val (s : St) : Value := .agg #[.int .u32 s.a, .int .u32 s.b, .int .u32 s.c, .int .u32 s.d, .int .u32 s.e, .int .u32 s.f, .int .u32 s.g, .int .u32 s.h]

/-- t of a round, as the program reckons it, before it is cut to 32 bits. -/
def tP (s : St) (k x : Int) : Int := s.h + Go.bits .xor .u32 (Go.bits .xor .u32 (rot s.e 6) (rot s.e 11)) (rot s.e 25) + Go.bits .xor .u32 s.g (Go.bits .and .u32 s.e (Go.bits .xor .u32 s.f s.g)) + k + x
/-- u of a round, as the program reckons it. -/
def uP (s : St) : Int := Go.bits .xor .u32 (Go.bits .xor .u32 (rot s.a 2) (rot s.a 13)) (rot s.a 22) + Go.bits .or .u32 (Go.bits .and .u32 s.a s.b) (Go.bits .and .u32 s.c (Go.bits .or .u32 s.a s.b))
/-- The numbers behind a round. -/
def roundP (s : St) (k x : Int) : St := ⟨(tP s k x + uP s) % 4294967296, s.a, s.b, s.c, (s.d + tP s k x) % 4294967296, s.e, s.f, s.g⟩

set_option maxRecDepth 100000 in
set_option maxHeartbeats 2000000 in
theorem round_calls (s : St) (k x : Int) (w : World) (hs : s.ok) :
    Calls Tryd.prog 36 #[s.val, .int .u32 k, .int .u32 x] w fun e w' => e = .returned (roundP s k x).val ∧ Below w.heap.size w w' := by
  obtain ⟨a, b, c, d, e, f, g, h⟩ := s
  obtain ⟨⟨ha0, ha1⟩, _, _, _, ⟨he0, he1⟩, _, _, _⟩ := hs
  obtain ⟨V, hV⟩ : ∃ V, (roundP ⟨a, b, c, d, e, f, g, h⟩ k x).val = V := ⟨_, rfl⟩
  show Calls Tryd.prog 36 #[.agg #[.int .u32 a, .int .u32 b, .int .u32 c, .int .u32 d, .int .u32 e, .int .u32 f, .int .u32 g, .int .u32 h], .int .u32 k, .int .u32 x] w fun e' w' => e' = .returned (roundP ⟨a, b, c, d, e, f, g, h⟩ k x).val ∧ Below w.heap.size w w'
  rw [hV]
  have HV := Lib.hid hV
  clear hV
  go_enter Tryd.func36, Tryd.ntmps36
  go_wp2
  go_quiet ((go_at_call 35; exact down_quiet _ _ _ _ (by assumption) (by assumption) (by decide) (by decide)))
  go_wp2
  go_quiet ((go_at_call 35; first | exact down_quiet _ _ _ _ (by assumption) (by assumption) (by decide) (by decide) | exact down_add _ _ _ _ _ (by assumption) (by assumption) (by decide) (by decide)))
  go_wp2
  refine bodyPost_ret (v := V) ?_ rfl ⟨rfl, ?_⟩
  · rw [← HV.out]
    simp [results, Tryd.results36, go_sem, St.val, roundP, tP, uP]
  · exact ((((((((pw_below_drewN (((Below.refl _ _).alloc (Nat.le_refl _) _).alloc (by simp) _) _).setCell (by simp) _).setCell (by simp) _).setCell (by simp) _).setCell (by simp) _).setCell (by simp) _).setCell (by simp) _).setCell (by simp) _).setCell (by simp) _

end Go.Proofs.YtegjphfkkafomaaDoor.Sha
