/- What NumsBlocks' plain function answers: true, for all two numbers of 32 bits. -/
import Derived.Test.YtihlaamcepgipaaNumsB
namespace Go.Proofs.Ytihlaamcepgipaa.Pure
open Go.RowKit Go.Proofs.Ytihlaamcepgipaa.Q Go.Proofs.YtihlaamcepgipaaW.PrintWords Go.Proofs.YtihlaamcepgipaaW.PrintLast Go.Proofs.YtihlaamcepgipaaW.PrintMore

theorem NumsBlocks : lighterlaw01_NumsBlocks.Pure := by
  intro a0 a1 h0 h1
  refine Ev.rounds ?_
  simp only [Lit.wf, IntKind.min, IntKind.max, IntKind.signed, IntKind.bits, Bool.and_eq_true] at h0 h1
  have g0 : 0 ≤ a0 ∧ a0 < 4294967296 := by simp at h0; omega
  have g1 : 0 ≤ a1 ∧ a1 < 4294967296 := by simp at h1; omega
  clear h0 h1
  have w0 : wrap64 a0 = a0 := wrap64_id (by unfold I64; omega)
  have w1 : wrap64 a1 = a1 := wrap64_id (by unfold I64; omega)
  obtain ⟨K, hK⟩ := share_small a0 a1 (by omega) (by omega) (by unfold I64; omega)
  obtain ⟨K2, hK2⟩ := added_bind
  have hj : ∀ b, b = false → ∀ k, max K K2 + 1 ≤ k → lighterlaw01_NumsBlocks.j0 k a0 a1 b = some true := by
    rintro b rfl k hk
    obtain ⟨k, rfl⟩ : ∃ m, k = m + 1 := ⟨k - 1, by omega⟩
    have h := hK k (by omega)
    have h2 := hK2 k (by omega)
    simp only at h h2
    simp only [lighterlaw01_NumsBlocks.j0]
    rw [if_neg (by simp), h, Option.bind_some]
    by_cases hz : a1 = 0
    · have hS : shareS a0 a1 = 0 := by unfold shareS; rw [if_pos (by omega)]
      rw [hS, if_pos hz, if_pos rfl, h2]
    · by_cases hp : a1 ≤ a0
      · have hS : shareS a0 a1 = 100 := by unfold shareS; rw [if_neg (by omega), if_pos hp]
        rw [hS, if_neg hz, if_pos (by omega), if_pos (by omega), wrap64_id (a := 100 * a1) (by unfold I64; omega), wrap64_id (a := 100 * a0) (by unfold I64; omega), if_pos (by omega), if_pos rfl, h2]
      · have hS : shareS a0 a1 = a0 * 100 / a1 := by unfold shareS; rw [if_neg (by omega), if_neg hp]
        rw [hS]
        have q0 : 0 ≤ a0 * 100 / a1 := Int.ediv_nonneg (by omega) (by omega)
        have q1 : a0 * 100 / a1 < 100 := by
          apply Int.ediv_lt_of_lt_mul (by omega)
          omega
        have q2 := Int.mul_ediv_add_emod (a0 * 100) a1
        have q3 := Int.emod_nonneg (a0 * 100) (b := a1) (by omega)
        have q4 := Int.emod_lt_of_pos (a0 * 100) (b := a1) (by omega)
        generalize a0 * 100 / a1 = q at *
        have q5 : q * a1 = a1 * q := Int.mul_comm _ _
        have q6 : (q + 1) * a1 = a1 * q + a1 := by rw [Int.add_mul, Int.mul_comm q a1]; omega
        have q7 : 0 ≤ a1 * q := Int.mul_nonneg (by omega) q0
        have q8 : a1 * q ≤ a0 * 100 := by omega
        rw [if_neg hz, if_pos (by omega), if_pos (by omega), q5, wrap64_id (a := a1 * q) (by unfold I64; omega), wrap64_id (a := 100 * a0) (by unfold I64; omega), if_pos (by omega), if_neg (by omega), wrap64_id (a := q + 1) (by unfold I64; omega), q6, wrap64_id (a := a1 * q + a1) (by unfold I64; omega), if_pos (by omega), h2]
  refine ⟨max K K2 + 1, fun k hk => ?_⟩
  show lighterlaw01_NumsBlocks.f k a0 a1 = some true
  unfold lighterlaw01_NumsBlocks.f
  rw [w0, w1, blocks_ok a0 (by unfold I64; omega), Option.bind_some]
  unfold blocksS
  by_cases hs : a0 < 1
  · rw [if_pos hs, wrap64_id (by unfold I64; omega), if_neg (by omega), if_neg (by omega)]
    exact hj _ rfl k hk
  · rw [if_neg hs, wrap64_id (a := ((a0 - 1) / 512 + 1) * 512) (by unfold I64; omega), if_neg (by omega), if_pos (by omega), wrap64_id (a := (a0 - 1) / 512 + 1 - 1) (by unfold I64; omega), wrap64_id (a := ((a0 - 1) / 512 + 1 - 1) * 512) (by unfold I64; omega)]
    exact hj _ (by rw [decide_eq_false_iff_not]; omega) k hk

end Go.Proofs.Ytihlaamcepgipaa.Pure
