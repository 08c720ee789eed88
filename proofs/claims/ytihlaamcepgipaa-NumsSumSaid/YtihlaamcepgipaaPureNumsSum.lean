/- What NumsSum's plain function answers: true, for every list of numbers. -/
import Derived.Test.YtihlaamcepgipaaNumsB
namespace Go.Proofs.Ytihlaamcepgipaa.Pure
open Go.RowKit Go.Proofs.Ytihlaamcepgipaa.Q Go.Proofs.YtihlaamcepgipaaW.PrintWords Go.Proofs.YtihlaamcepgipaaW.PrintLast Go.Proofs.YtihlaamcepgipaaW.PrintMore

theorem NumsSum : lighterlaw01_NumsSum.Pure := by
  intro l0 hl _ _
  refine Ev.rounds ?_
  unfold maxLen at hl
  by_cases h100 : (l0.length : Int) > 100
  · refine Ev.congr (f := fun k => (lighterlaw01_added.f k).bind fun t => some t) (fun k => ?_) added_bind
    unfold lighterlaw01_NumsSum.f
    rw [if_pos h100]
  · obtain ⟨K, hK⟩ := sum_ok l0 (by omega)
    obtain ⟨K1, hK1⟩ := refSum_ok l0 (by omega)
    obtain ⟨K2, hK2⟩ := added_bind
    refine ⟨max K (max K1 K2), fun k hk => ?_⟩
    have h := hK k (by omega)
    have h1 := hK1 k (by omega)
    have h2 := hK2 k (by omega)
    simp only at h h1 h2
    show lighterlaw01_NumsSum.f k l0 = some true
    unfold lighterlaw01_NumsSum.f
    rw [if_neg h100, h, Option.bind_some, h1, Option.bind_some, is_same, Option.bind_some, if_pos rfl, h2]


end Go.Proofs.Ytihlaamcepgipaa.Pure
