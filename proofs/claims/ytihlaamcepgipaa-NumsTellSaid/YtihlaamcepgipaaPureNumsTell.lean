/- What NumsTell's plain function answers: true, for all two numbers of 64 bits. -/
import Derived.Test.YtihlaamcepgipaaNumsD
namespace Go.Proofs.Ytihlaamcepgipaa.Pure
open Go.RowKit Go.Proofs.Ytihlaamcepgipaa.Q Go.Proofs.YtihlaamcepgipaaW.PrintWords Go.Proofs.YtihlaamcepgipaaW.PrintLast Go.Proofs.YtihlaamcepgipaaW.PrintMore

theorem refWithin_ok (a : Int) : lighterref01_within.f a = some (decide (In a)) := by
  unfold lighterref01_within.f In
  by_cases h : a ≥ 0
  · rw [if_pos h]
    have : 0 ≤ a := h
    simp [this]
  · rw [if_neg h]
    have : ¬ (0 ≤ a) := h
    simp [this]

theorem refMul_in (a : Int) (ha : In a) (d : Nat) : ∀ b : Int, In b → b.toNat ≤ d → Ev (fun k => lighterref01_Mul.f k a b) (mulS a b) := by
  induction d with
  | zero =>
    intro b hb hd
    have hb0 : b = 0 := by have := hb.1; omega
    subst hb0
    refine ⟨3, fun k hk => ?_⟩
    obtain ⟨k, rfl⟩ : ∃ m, k = m + 3 := ⟨k - 3, by omega⟩
    show lighterref01_Mul.f (k + 3) a 0 = _
    simp only [lighterref01_Mul.f]
    rw [refWithin_ok, refWithin_ok, decide_eq_true ha, decide_eq_true hb, Option.bind_some, if_pos rfl, Option.bind_some]
    have hS : mulS a 0 = (0, true) := by
      unfold mulS
      rw [Int.mul_zero, if_pos ⟨ha, hb, by decide⟩]
    rw [hS]
    simp only [lighterref01_Mul.j0]
    rw [if_neg (by simp)]
    split
    · simp only [lighterref01_Mul.j1]
      rw [if_pos trivial]
    · simp only [lighterref01_Mul.j1]
      rw [if_pos (by decide)]
  | succ d ih =>
    intro b hb hd
    have hbr := hb
    have har := ha
    unfold In at hbr har
    have start : ∀ k, lighterref01_Mul.f (k + 2) a b = (if a = 0 then lighterref01_Mul.j1 k a b true else lighterref01_Mul.j1 k a b (b == 0)) := by
      intro k
      simp only [lighterref01_Mul.f]
      rw [refWithin_ok, refWithin_ok, decide_eq_true ha, decide_eq_true hb, Option.bind_some, if_pos rfl, Option.bind_some]
      simp only [lighterref01_Mul.j0]
      rw [if_neg (by simp)]
    by_cases hz : a = 0 ∨ b = 0
    · have hS : mulS a b = (0, true) := by
        have e : a * b = 0 := by rcases hz with h | h <;> simp [h]
        unfold mulS
        rw [e, if_pos ⟨ha, hb, by decide⟩]
      refine ⟨3, fun k hk => ?_⟩
      obtain ⟨k, rfl⟩ : ∃ m, k = m + 3 := ⟨k - 3, by omega⟩
      show lighterref01_Mul.f (k + 1 + 2) a b = _
      rw [start, hS]
      by_cases h0 : a = 0
      · rw [if_pos h0]
        simp only [lighterref01_Mul.j1]
        rw [if_pos trivial]
      · rw [if_neg h0]
        have hb0 : b = 0 := by omega
        simp only [lighterref01_Mul.j1]
        rw [if_pos (by simp [hb0])]
    · by_cases h1 : b = 1
      · have hS : mulS a b = (a, true) := by
          unfold mulS
          rw [h1, Int.mul_one, if_pos ⟨ha, by unfold In; omega, by omega⟩]
        refine ⟨3, fun k hk => ?_⟩
        obtain ⟨k, rfl⟩ : ∃ m, k = m + 3 := ⟨k - 3, by omega⟩
        show lighterref01_Mul.f (k + 1 + 2) a b = _
        rw [start, hS, if_neg (by omega)]
        simp only [lighterref01_Mul.j1]
        rw [if_neg (by simp; omega), if_pos h1]
      · obtain ⟨h, hh⟩ : ∃ h, h = b / 2 := ⟨_, rfl⟩
        obtain ⟨K, hK⟩ := ih h (by unfold In; omega) (by omega)
        have t1 : wrap64 (Int.tdiv b 2) = h := by
          rw [Int.tdiv_eq_ediv_of_nonneg (by omega), wrap64_id (by unfold I64; omega), hh]
        have t2 : Int.tmod b 2 = b % 2 := Int.tmod_eq_emod_of_nonneg (by omega)
        have hin : In h := by unfold In; omega
        have p0 : 0 ≤ a * h := Int.mul_nonneg har.1 (by omega)
        have pe : a * b = a * h + a * h + (if b % 2 = 0 then 0 else a) := by
          split
          · have : b = h + h := by omega
            rw [this, Int.mul_add]; omega
          · have : b = h + h + 1 := by omega
            rw [this, Int.mul_add, Int.mul_add]; omega
        refine ⟨K + 4, fun k hk => ?_⟩
        obtain ⟨k, rfl⟩ : ∃ m, k = m + 4 := ⟨k - 4, by omega⟩
        have hk1 := hK (k + 1) (by omega)
        simp only at hk1
        show lighterref01_Mul.f (k + 2 + 2) a b = _
        rw [start, if_neg (by omega)]
        simp only [lighterref01_Mul.j1]
        rw [if_neg (by simp; omega), if_neg h1, t1, hk1, Option.bind_some, refAdd_ok, Option.bind_some]
        by_cases c1 : a * h ≤ 4611686018427387904
        · have m1 : mulS a h = (a * h, true) := by unfold mulS; rw [if_pos ⟨ha, hin, c1⟩]
          rw [m1, if_pos rfl]
          show lighterref01_Mul.j2 (k + 1) a b (addS (a * h) (a * h)).1 (!(addS (a * h) (a * h)).2) = _
          by_cases c2 : a * h + a * h ≤ 4611686018427387904
          · have s1 : addS (a * h) (a * h) = (a * h + a * h, true) := by unfold addS; rw [if_pos ⟨⟨p0, c1⟩, ⟨p0, c1⟩, c2⟩]
            rw [s1]
            simp only [lighterref01_Mul.j2]
            rw [if_neg (by simp), t2]
            by_cases c3 : b % 2 = 0
            · rw [if_pos c3] at pe ⊢
              unfold mulS
              rw [if_pos ⟨ha, hb, by omega⟩, pe, Int.add_zero]
            · rw [if_neg c3] at pe ⊢
              rw [refAdd_ok, Option.bind_some]
              unfold addS mulS
              by_cases c4 : a * h + a * h + a ≤ 4611686018427387904
              · rw [if_pos ⟨⟨by omega, c2⟩, ha, c4⟩, if_pos ⟨ha, hb, by omega⟩, pe]
              · rw [if_neg (fun z => c4 z.2.2), if_neg (fun z => c4 (by have := z.2.2; omega))]
          · have s1 : addS (a * h) (a * h) = (0, false) := by unfold addS; rw [if_neg (fun z => c2 z.2.2)]
            rw [s1]
            simp only [lighterref01_Mul.j2]
            rw [if_pos (by simp)]
            unfold mulS
            rw [if_neg]
            intro z
            have := z.2.2
            split at pe <;> omega
        · have m1 : mulS a h = (0, false) := by unfold mulS; rw [if_neg (fun z => c1 z.2.2)]
          rw [m1, if_neg (by simp)]
          simp only [lighterref01_Mul.j2]
          rw [if_pos trivial]
          unfold mulS
          rw [if_neg]
          intro z
          have := z.2.2
          split at pe <;> omega

theorem refMul_ok (a b : Int) : Ev (fun k => lighterref01_Mul.f k a b) (mulS a b) := by
  by_cases h : In a ∧ In b
  · exact refMul_in a h.1 b.toNat b h.2 (Nat.le_refl _)
  · have hS : mulS a b = (0, false) := by unfold mulS; rw [if_neg (fun z => h ⟨z.1, z.2.1⟩)]
    refine ⟨2, fun k hk => ?_⟩
    obtain ⟨k, rfl⟩ : ∃ m, k = m + 2 := ⟨k - 2, by omega⟩
    show lighterref01_Mul.f (k + 2) a b = _
    simp only [lighterref01_Mul.f]
    rw [refWithin_ok, refWithin_ok, Option.bind_some, Option.bind_some, hS]
    by_cases ha : In a
    · have hb : ¬ In b := fun z => h ⟨ha, z⟩
      simp [ha, hb, lighterref01_Mul.j0]
    · simp [ha, lighterref01_Mul.j0]

theorem is_pair (p : Int × Bool) : lighterlaw01_is.f p.1 p.2 p.1 p.2 = some true := is_same _ _

theorem NumsTell : lighterlaw01_NumsTell.Pure := by
  intro a b ha hb
  refine Ev.rounds ?_
  have ia := i64_of_wf ha
  have ib := i64_of_wf hb
  obtain ⟨K1, h1⟩ := add_ok a b
  obtain ⟨K2, h2⟩ := sub_ok a b
  obtain ⟨K3, h3⟩ := mul_ok a b
  obtain ⟨K4, h4⟩ := refMul_ok a b
  obtain ⟨K5, h5⟩ := share_ok a b ia ib
  obtain ⟨K6, h6⟩ := refShare_ok a b ia ib
  obtain ⟨K7, h7⟩ := added_bind
  refine ⟨K1 + K2 + K3 + K4 + K5 + K6 + K7, fun k hk => ?_⟩
  have g1 := h1 k (by omega)
  have g2 := h2 k (by omega)
  have g3 := h3 k (by omega)
  have g4 := h4 k (by omega)
  have g5 := h5 k (by omega)
  have g6 := h6 k (by omega)
  have g7 := h7 k (by omega)
  simp only at g1 g2 g3 g4 g5 g6 g7
  show lighterlaw01_NumsTell.f k a b = some true
  unfold lighterlaw01_NumsTell.f
  rw [g1, Option.bind_some, refAdd_ok, Option.bind_some, g2, Option.bind_some, refSub_ok, Option.bind_some, g3, Option.bind_some, g4, Option.bind_some, is_pair, Option.bind_some, if_pos rfl, is_pair, Option.bind_some, if_pos rfl, is_pair, Option.bind_some, if_pos rfl,
    blocks_ok a ia, Option.bind_some, refBlocks_ok a ia, Option.bind_some, if_pos rfl, g5, Option.bind_some, g6, Option.bind_some, if_pos rfl, g7]

end Go.Proofs.Ytihlaamcepgipaa.Pure
