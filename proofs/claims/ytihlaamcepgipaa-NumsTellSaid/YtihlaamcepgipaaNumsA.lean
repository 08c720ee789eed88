/- What the sums, differences, products and blocks of package nums, and of its reference, come to, as plain numbers. -/
import Derived.Test.YtihlaamcepgipaaQ4
import Derived.Laws.BitsAllLaws
namespace Go.Proofs.Ytihlaamcepgipaa.Pure
open Go.RowKit Go.Proofs.Ytihlaamcepgipaa.Q Go.Proofs.YtihlaamcepgipaaW.PrintWords Go.Proofs.YtihlaamcepgipaaW.PrintLast Go.Proofs.YtihlaamcepgipaaW.PrintMore

def M62 : Int := 4611686018427387904
def In (a : Int) : Prop := 0 ≤ a ∧ a ≤ 4611686018427387904
instance (a : Int) : Decidable (In a) := by unfold In; infer_instance
def I64 (a : Int) : Prop := -9223372036854775808 ≤ a ∧ a ≤ 9223372036854775807

theorem i64_of_wf {a : Int} (h : (Lit.int .i64 a).wf = true) : I64 a := by
  simp only [Lit.wf, IntKind.min, IntKind.max, IntKind.signed, IntKind.bits, Bool.and_eq_true, decide_eq_true_eq, if_true] at h
  unfold I64
  omega
theorem wrap64_id {a : Int} (h : I64 a) : wrap64 a = a := by unfold wrap64 I64 at *; omega
theorem u64_id {a : Int} (h0 : 0 ≤ a) (h1 : a < 18446744073709551616) : IntKind.u64.wrap a = a := by rw [IntKind.wrap_u64]; omega

theorem within1 (a : Int) : Ev (fun k => nums_within.f k [a]) (decide (In a)) := by
  refine ⟨2, fun k hk => ?_⟩
  obtain ⟨k, rfl⟩ : ∃ m, k = m + 2 := ⟨k - 2, by omega⟩
  show nums_within.l0 _ _ _ _ = _
  unfold In
  simp only [nums_within.l0, rd, List.length_cons, List.length_nil]
  by_cases h1 : a < 0
  · have : ¬ (0 ≤ a ∧ a ≤ 4611686018427387904) := by omega
    simp [h1, this]
  · by_cases h2 : a > 4611686018427387904
    · have : ¬ (0 ≤ a ∧ a ≤ 4611686018427387904) := by omega
      simp [h1, h2, this]
    · have : (0 ≤ a ∧ a ≤ 4611686018427387904) := by omega
      simp [h1, h2, this, wrap64]

theorem within2 (a b : Int) : Ev (fun k => nums_within.f k [a, b]) (decide (In a ∧ In b)) := by
  refine ⟨3, fun k hk => ?_⟩
  obtain ⟨k, rfl⟩ : ∃ m, k = m + 3 := ⟨k - 3, by omega⟩
  show nums_within.l0 _ _ _ _ = _
  unfold In
  simp only [nums_within.l0, rd, List.length_cons, List.length_nil]
  by_cases h1 : a < 0
  · have : ¬ (0 ≤ a ∧ a ≤ 4611686018427387904) := by omega
    simp [h1, this]
  · by_cases h2 : a > 4611686018427387904
    · have : ¬ (0 ≤ a ∧ a ≤ 4611686018427387904) := by omega
      simp [h1, h2, this]
    · have ha : (0 ≤ a ∧ a ≤ 4611686018427387904) := by omega
      by_cases h3 : b < 0
      · have : ¬ (0 ≤ b ∧ b ≤ 4611686018427387904) := by omega
        simp [h1, h2, h3, this, wrap64]
      · by_cases h4 : b > 4611686018427387904
        · have : ¬ (0 ≤ b ∧ b ≤ 4611686018427387904) := by omega
          simp [h1, h2, h3, h4, this, wrap64]
        · have : (0 ≤ b ∧ b ≤ 4611686018427387904) := by omega
          simp [h1, h2, h3, h4, ha, this, wrap64]

theorem told_ok (n : Int) (ok : Bool) : Ev (fun k => nums_told.f k n ok) (if ok = true ∧ In n then (n, true) else (0, false)) := by
  obtain ⟨K, hK⟩ := within1 n
  refine ⟨K, fun k hk => ?_⟩
  have h := hK k hk
  simp only at h
  show nums_told.f k n ok = _
  unfold nums_told.f
  rw [h]
  cases ok <;> by_cases hn : In n <;> simp [hn]

/-- What Add answers. -/
def addS (a b : Int) : Int × Bool := if In a ∧ In b ∧ a + b ≤ 4611686018427387904 then (a + b, true) else (0, false)
/-- What Sub answers. -/
def subS (a b : Int) : Int × Bool := if In a ∧ In b ∧ b ≤ a then (a - b, true) else (0, false)
/-- What Mul answers. -/
def mulS (a b : Int) : Int × Bool := if In a ∧ In b ∧ a * b ≤ 4611686018427387904 then (a * b, true) else (0, false)

theorem add_ok (a b : Int) : Ev (fun k => nums_Add.f k a b) (addS a b) := by
  obtain ⟨K, hK⟩ := within2 a b
  obtain ⟨K1, hK1⟩ := told_ok (wrap64 (a + b)) (decide (a ≤ (wrap64 (4611686018427387904 - b))))
  obtain ⟨K2, hK2⟩ := told_ok (wrap64 (a + b)) false
  refine ⟨max K (max K1 K2), fun k hk => ?_⟩
  have h := hK k (by omega)
  have h1 := hK1 k (by omega)
  have h2 := hK2 k (by omega)
  simp only at h h1 h2
  show nums_Add.f k a b = _
  unfold nums_Add.f
  rw [h, h1, h2]
  unfold addS
  by_cases hw : In a ∧ In b
  · have e2 : wrap64 (4611686018427387904 - b) = 4611686018427387904 - b := wrap64_id (by unfold In at hw; unfold I64; omega)
    rw [e2]
    by_cases hs : a + b ≤ 4611686018427387904
    · have e1 : wrap64 (a + b) = a + b := wrap64_id (by unfold In at hw; unfold I64; omega)
      rw [e1]
      have h3 : a ≤ 4611686018427387904 - b := by omega
      have h4 : In (a + b) := by unfold In at *; omega
      simp [hw, hs, h3, h4]
    · have h3 : ¬ a ≤ 4611686018427387904 - b := by omega
      simp [hw, hs, h3]
  · have h5 : ¬ (In a ∧ In b ∧ a + b ≤ 4611686018427387904) := fun ⟨x, y, _⟩ => hw ⟨x, y⟩
    simp [hw, h5]

theorem refAdd_ok (a b : Int) : lighterref01_Add.f a b = some (addS a b) := by
  unfold lighterref01_Add.f lighterref01_within.f addS
  by_cases h1 : In a
  · by_cases h2 : In b
    · have e0 : a ≥ 0 := h1.1
      have e1 : b ≥ 0 := h2.1
      have e2 : a ≤ 4611686018427387904 := h1.2
      have e3 : b ≤ 4611686018427387904 := h2.2
      rw [u64_id (a := a) (by omega) (by omega), u64_id (a := b) (by omega) (by omega), u64_id (a := a + b) (by omega) (by omega)]
      by_cases hs : a + b ≤ 4611686018427387904
      · rw [wrap64_id (a := a + b) (by unfold I64; omega)]
        have : ¬ (a + b > 4611686018427387904) := by omega
        simp [h1, h2, e0, e1, e2, e3, this, hs]
      · have : (a + b > 4611686018427387904) := by omega
        simp [h1, h2, e0, e1, e2, e3, this, hs]
    · have : ¬ (0 ≤ b ∧ b ≤ 4611686018427387904) := h2
      have e0 : a ≥ 0 := h1.1
      have e2 : a ≤ 4611686018427387904 := h1.2
      by_cases e1 : b ≥ 0
      · have e3 : ¬ b ≤ 4611686018427387904 := by omega
        simp [h2, e0, e1, e2, e3]
      · simp [h2, e0, e1, e2]
  · have : ¬ (0 ≤ a ∧ a ≤ 4611686018427387904) := h1
    by_cases e1 : a ≥ 0
    · have e3 : ¬ a ≤ 4611686018427387904 := by omega
      simp [h1, e1, e3]
    · simp [h1, e1]

theorem sub_ok (a b : Int) : Ev (fun k => nums_Sub.f k a b) (subS a b) := by
  obtain ⟨K, hK⟩ := within2 a b
  obtain ⟨K1, hK1⟩ := told_ok (wrap64 (a - b)) (decide (In a ∧ In b))
  refine ⟨max K K1, fun k hk => ?_⟩
  have h := hK k (by omega)
  have h1 := hK1 k (by omega)
  simp only at h h1
  show nums_Sub.f k a b = _
  unfold nums_Sub.f
  rw [h, Option.bind_some, h1]
  unfold subS
  by_cases hw : In a ∧ In b
  · have e1 : wrap64 (a - b) = a - b := wrap64_id (by unfold In at hw; unfold I64; omega)
    rw [e1]
    by_cases hs : b ≤ a
    · have h4 : In (a - b) := by unfold In at *; omega
      simp [hw, hs, h4]
    · have h4 : ¬ In (a - b) := by unfold In at *; omega
      simp [hs, h4]
  · have h5 : ¬ (In a ∧ In b ∧ b ≤ a) := fun ⟨x, y, _⟩ => hw ⟨x, y⟩
    simp [hw, h5]

theorem refSub_ok (a b : Int) : lighterref01_Sub.f a b = some (subS a b) := by
  unfold lighterref01_Sub.f lighterref01_within.f subS
  by_cases h1 : In a
  · by_cases h2 : In b
    · have e0 : a ≥ 0 := h1.1
      have e1 : b ≥ 0 := h2.1
      have e2 : a ≤ 4611686018427387904 := h1.2
      have e3 : b ≤ 4611686018427387904 := h2.2
      rw [wrap64_id (a := a - b) (by unfold I64; omega)]
      by_cases hs : b ≤ a
      · have : ¬ (a < b) := by omega
        simp [h1, h2, e0, e1, e2, e3, this, hs]
      · have : a < b := by omega
        simp [e0, e1, e2, e3, this, hs]
    · have : ¬ (0 ≤ b ∧ b ≤ 4611686018427387904) := h2
      have e0 : a ≥ 0 := h1.1
      have e2 : a ≤ 4611686018427387904 := h1.2
      by_cases e1 : b ≥ 0
      · have e3 : ¬ b ≤ 4611686018427387904 := by omega
        simp [h2, e0, e1, e2, e3]
      · simp [h2, e0, e1, e2]
  · have : ¬ (0 ≤ a ∧ a ≤ 4611686018427387904) := h1
    by_cases e1 : a ≥ 0
    · have e3 : ¬ a ≤ 4611686018427387904 := by omega
      simp [h1, e1, e3]
    · simp [h1, e1]

theorem and32 (a : Int) (h0 : 0 ≤ a) (h1 : a < 18446744073709551616) : Go.bits .and .u64 a 4294967295 = a % 4294967296 := by
  rw [u64_and a 4294967295 h0 h1 (by decide) (by decide)]
  have : (4294967295 : Int).toNat = 2 ^ 32 - 1 := by decide
  rw [this, Nat.and_two_pow_sub_one_eq_mod]
  omega

theorem mul64_ok (a b : Int) (ha0 : 0 ≤ a) (ha : a < 18446744073709551616) (hb0 : 0 ≤ b) (hb : b < 18446744073709551616) :
    bits_Mul64.f a b = some (a * b / 18446744073709551616, a * b % 18446744073709551616) := by
  unfold bits_Mul64.f
  rw [and32 a ha0 ha, and32 b hb0 hb]
  obtain ⟨a1, ha1⟩ : ∃ x, a / 4294967296 = x := ⟨_, rfl⟩
  obtain ⟨a2, ha2⟩ : ∃ x, a % 4294967296 = x := ⟨_, rfl⟩
  obtain ⟨b1, hb1⟩ : ∃ x, b / 4294967296 = x := ⟨_, rfl⟩
  obtain ⟨b2, hb2⟩ : ∃ x, b % 4294967296 = x := ⟨_, rfl⟩
  have ea : a = 4294967296 * a1 + a2 := by omega
  have eb : b = 4294967296 * b1 + b2 := by omega
  have a1r : 0 ≤ a1 ∧ a1 ≤ 4294967295 := by omega
  have a2r : 0 ≤ a2 ∧ a2 ≤ 4294967295 := by omega
  have b1r : 0 ≤ b1 ∧ b1 ≤ 4294967295 := by omega
  have b2r : 0 ≤ b2 ∧ b2 ≤ 4294967295 := by omega
  rw [ha1, ha2, hb1, hb2]
  have key : ∀ x y : Int, 0 ≤ x ∧ x ≤ 4294967295 → 0 ≤ y ∧ y ≤ 4294967295 → 0 ≤ x * y ∧ x * y ≤ 18446744065119617025 := by
    intro x y hx hy
    refine ⟨Int.mul_nonneg hx.1 hy.1, ?_⟩
    have := Int.mul_le_mul hx.2 hy.2 hy.1 (by decide : (0 : Int) ≤ 4294967295)
    omega
  have k11 := key a1 b1 a1r b1r
  have k12 := key a1 b2 a1r b2r
  have k21 := key a2 b1 a2r b1r
  have k22 := key a2 b2 a2r b2r
  have e : a * b = 18446744073709551616 * (a1 * b1) + 4294967296 * (a1 * b2) + 4294967296 * (a2 * b1) + a2 * b2 := by
    rw [ea, eb, Int.add_mul, Int.mul_add, Int.mul_add]
    have e1 : 4294967296 * a1 * (4294967296 * b1) = 18446744073709551616 * (a1 * b1) := by
      rw [Int.mul_assoc, Int.mul_left_comm a1, ← Int.mul_assoc]; rfl
    have e2 : 4294967296 * a1 * b2 = 4294967296 * (a1 * b2) := Int.mul_assoc _ _ _
    have e3 : a2 * (4294967296 * b1) = 4294967296 * (a2 * b1) := Int.mul_left_comm _ _ _
    rw [e1, e2, e3]
    omega
  rw [e]
  clear ha1 ha2 hb1 hb2 ea eb e
  generalize a1 * b1 = p11 at *
  generalize a1 * b2 = p12 at *
  generalize a2 * b1 = p21 at *
  generalize a2 * b2 = p22 at *
  rw [u64_id (a := p11) (by omega) (by omega), u64_id (a := p12) (by omega) (by omega), u64_id (a := p21) (by omega) (by omega), u64_id (a := p22) (by omega) (by omega)]
  rw [u64_id (a := p12 + p22 / 4294967296) (by omega) (by omega)]
  rw [and32 (p12 + p22 / 4294967296) (by omega) (by omega)]
  rw [u64_id (a := (p12 + p22 / 4294967296) % 4294967296 + p21) (by omega) (by omega)]
  rw [u64_id (a := p11 + (p12 + p22 / 4294967296) / 4294967296) (by omega) (by omega)]
  rw [u64_id (a := p11 + (p12 + p22 / 4294967296) / 4294967296 + ((p12 + p22 / 4294967296) % 4294967296 + p21) / 4294967296) (by omega) (by omega)]
  rw [IntKind.wrap_u64]
  refine congrArg some (Prod.ext ?_ rfl)
  show p11 + (p12 + p22 / 4294967296) / 4294967296 + ((p12 + p22 / 4294967296) % 4294967296 + p21) / 4294967296 = _
  omega

theorem mul_ok (a b : Int) : Ev (fun k => nums_Mul.f k a b) (mulS a b) := by
  obtain ⟨K, hK⟩ := within2 a b
  obtain ⟨K1, hK1⟩ := told_ok (wrap64 (a * b % 18446744073709551616)) (decide (a * b % 18446744073709551616 ≤ 4611686018427387904))
  obtain ⟨K2, hK2⟩ := told_ok (wrap64 (a * b % 18446744073709551616)) false
  refine ⟨max K (max K1 K2), fun k hk => ?_⟩
  have h := hK k (by omega)
  have h1 := hK1 k (by omega)
  have h2 := hK2 k (by omega)
  simp only at h h1 h2
  show nums_Mul.f k a b = _
  unfold nums_Mul.f
  rw [h, Option.bind_some]
  unfold mulS
  by_cases hw : In a ∧ In b
  · have hn : 0 ≤ a * b := Int.mul_nonneg hw.1.1 hw.2.1
    have hw' := hw
    unfold In at hw'
    rw [if_pos (by simpa using hw), u64_id (a := a) (by omega) (by omega), u64_id (a := b) (by omega) (by omega), mul64_ok a b (by omega) (by omega) (by omega) (by omega), Option.bind_some, h1, h2]
    generalize a * b = p at *
    by_cases hs : p ≤ 4611686018427387904
    · have e1 : p / 18446744073709551616 = 0 := by omega
      have e2 : p % 18446744073709551616 = p := by omega
      have e3 : wrap64 p = p := wrap64_id (by unfold I64; omega)
      have e4 : In p := ⟨hn, hs⟩
      simp [hw, hs, e1, e2, e3, e4]
    · by_cases e1 : p / 18446744073709551616 = 0
      · have e2 : p % 18446744073709551616 = p := by omega
        have e3 : ¬ p ≤ 4611686018427387904 := hs
        simp [hs, e1, e2]
      · simp [hs, e1]
  · have h5 : ¬ (In a ∧ In b ∧ a * b ≤ 4611686018427387904) := fun ⟨x, y, _⟩ => hw ⟨x, y⟩
    simp [hw, h5]

/-- What Blocks answers. -/
def blocksS (n : Int) : Int := if n < 1 then 0 else (n - 1) / 512 + 1

theorem blocks_ok (n : Int) (h : I64 n) : nums_Blocks.f n = some (blocksS n) := by
  unfold nums_Blocks.f blocksS
  by_cases h1 : n < 1
  · simp [h1]
  · unfold I64 at h
    rw [if_neg h1, if_neg h1, wrap64_id (a := n - 1) (by unfold I64; omega), Int.tdiv_eq_ediv_of_nonneg (by omega), wrap64_id (a := (n - 1) / 512) (by unfold I64; omega), wrap64_id (by unfold I64; omega)]

theorem refBlocks_ok (n : Int) (h : I64 n) : lighterref01_Blocks.f n = some (blocksS n) := by
  unfold lighterref01_Blocks.f blocksS
  by_cases h1 : n < 1
  · simp [h1]
  · unfold I64 at h
    rw [if_neg h1, if_neg h1, Int.tdiv_eq_ediv_of_nonneg (by omega), Int.tmod_eq_emod_of_nonneg (by omega), wrap64_id (a := n / 512) (by unfold I64; omega), wrap64_id (a := n / 512 + 1) (by unfold I64; omega)]
    by_cases h2 : n % 512 > 0
    · rw [if_pos h2]; congr 1; omega
    · rw [if_neg h2]; congr 1; omega

theorem added_ok : Ev (fun k => lighterlaw01_added.f k) true :=
  Ev.of lighterlaw01_added.mono (k := 12) (by decide +kernel)

end Go.Proofs.Ytihlaamcepgipaa.Pure
