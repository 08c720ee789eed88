/- What NumsOrder's plain function answers: true, for every list of numbers, parted anywhere. -/
import Derived.Test.YtihlaamcepgipaaNumsB
import Derived.Test.YtihlaamcepgipaaQ5
namespace Go.Proofs.Ytihlaamcepgipaa.Pure
open Go.RowKit Go.Proofs.Ytihlaamcepgipaa.Q Go.Proofs.YtihlaamcepgipaaW.PrintWords Go.Proofs.YtihlaamcepgipaaW.PrintLast Go.Proofs.YtihlaamcepgipaaW.PrintMore

theorem order_loop (l : List Int) (hl : l.length ≤ 60) (x5 x6 : Int) (x7 : Bool) (r : Bool) : ∀ (i : Nat) (acc : List Int), i ≤ l.length → acc.length + i ≤ 60 →
    Ev (fun k => lighterlaw01_NumsOrder.l0 k l x5 x6 x7 (acc ++ (l.take i).reverse) (-1)) r → Ev (fun k => lighterlaw01_NumsOrder.l0 k l x5 x6 x7 acc ((i : Int) - 1)) r := by
  intro i
  induction i with
  | zero =>
    intro acc _ _ h
    simpa using h
  | succ i ih =>
    intro acc hi ha h
    have hlt : i < l.length := by omega
    obtain ⟨K, hK⟩ := ih (acc ++ [l[i]]) (by omega) (by simp; omega) (by
      have e : acc ++ [l[i]] ++ (l.take i).reverse = acc ++ (l.take (i + 1)).reverse := by
        rw [List.take_succ_eq_append_getElem hlt, List.reverse_append]
        simp
      rw [e]
      exact h)
    refine ⟨K + 1, fun k hk => ?_⟩
    obtain ⟨k, rfl⟩ : ∃ m, k = m + 1 := ⟨k - 1, by omega⟩
    have h1 := hK k (by omega)
    show lighterlaw01_NumsOrder.l0 (k + 1) _ _ _ _ _ _ = _
    simp only [lighterlaw01_NumsOrder.l0]
    have e : ((i + 1 : Nat) : Int) - 1 = (i : Int) := by omega
    have e2 : wrap64 ((i : Int) - 1) = (i : Int) - 1 := wrap64_id (by unfold I64; omega)
    rw [e, if_pos (by omega), if_pos (by omega), if_pos (by omega), if_pos (by omega), rd_getElem l i hlt, e2]
    exact h1

theorem NumsOrder : lighterlaw01_NumsOrder.Pure := by
  intro l a1 _ _ _ hu
  refine Ev.rounds ?_
  simp only [Lit.wf, IntKind.min, IntKind.max, IntKind.signed, IntKind.bits, Bool.and_eq_true] at hu
  have g1 : 0 ≤ a1 ∧ a1 < 256 := by simp at hu; omega
  clear hu
  by_cases h60 : (l.length : Int) > 60
  · refine Ev.congr (f := fun k => (lighterlaw01_added.f k).bind fun t => some t) (fun k => ?_) added_bind
    unfold lighterlaw01_NumsOrder.f
    rw [if_pos h60]
  · have w1 : wrap64 a1 = a1 := wrap64_id (by unfold I64; omega)
    have w2 : wrap64 ((l.length : Int) + 1) = (l.length : Int) + 1 := wrap64_id (by unfold I64; omega)
    have w3 : wrap64 ((l.length : Int) - 1) = (l.length : Int) - 1 := wrap64_id (by unfold I64; omega)
    have m0 := Int.emod_nonneg a1 (b := (l.length : Int) + 1) (by omega)
    have m1 := Int.emod_lt_of_pos a1 (b := (l.length : Int) + 1) (by omega)
    obtain ⟨j, hj⟩ : ∃ j : Nat, a1 % ((l.length : Int) + 1) = (j : Int) := ⟨_, (Int.toNat_of_nonneg m0).symm⟩
    rw [hj] at m0 m1
    obtain ⟨f1, f2, f3⟩ := order_facts l j
    have last : Ev (fun k => lighterlaw01_NumsOrder.l0 k l (j : Int) (sumGo 0 l).1 (sumGo 0 l).2 l.reverse (-1)) true := by
      obtain ⟨K1, hK1⟩ := sum_ok l.reverse (by simp; omega)
      obtain ⟨K2, hK2⟩ := sum_ok (l.take j) (by simp; omega)
      obtain ⟨K3, hK3⟩ := sum_ok (l.drop j) (by simp; omega)
      obtain ⟨K4, hK4⟩ := add_ok (sumGo 0 (l.take j)).1 (sumGo 0 (l.drop j)).1
      obtain ⟨K5, hK5⟩ := sub_ok (sumGo 0 l).1 (sumGo 0 (l.drop j)).1
      obtain ⟨K6, hK6⟩ := added_bind
      refine ⟨K1 + K2 + K3 + K4 + K5 + K6 + 2, fun k hk => ?_⟩
      obtain ⟨k, rfl⟩ : ∃ m, k = m + 2 := ⟨k - 2, by omega⟩
      have h1 := hK1 (k + 1) (by omega)
      have h2 := hK2 (k + 1) (by omega)
      have h3 := hK3 (k + 1) (by omega)
      have h4 := hK4 (k + 1) (by omega)
      have h5 := hK5 k (by omega)
      have h6 := hK6 k (by omega)
      simp only at h1 h2 h3 h4 h5 h6
      show lighterlaw01_NumsOrder.l0 (k + 1 + 1) _ _ _ _ _ _ = _
      simp only [lighterlaw01_NumsOrder.l0]
      rw [if_neg (by omega), h1, Option.bind_some, if_pos (by omega), if_pos (by omega), Int.toNat_natCast, h2, Option.bind_some, h3, Option.bind_some, h4, Option.bind_some, ← f1, is_same, Option.bind_some, if_pos rfl]
      have fin : lighterlaw01_NumsOrder.j1 (k + 1) (sumGo 0 l).1 (sumGo 0 l).2 (sumGo 0 (l.take j)).1 (sumGo 0 (l.drop j)).1 false = some true := by
        simp only [lighterlaw01_NumsOrder.j1]
        rw [if_neg (by simp), h5, Option.bind_some]
        cases e : (sumGo 0 l).2 with
        | true =>
          obtain ⟨_, _, _, s⟩ := f2 e
          rw [s]
          simp only [if_true]
          exact h6
        | false =>
          rw [if_neg (by simp)]
          exact h6
      cases e : (sumGo 0 l).2 with
      | true =>
        obtain ⟨c2, d2, s, _⟩ := f2 e
        rw [e] at fin
        rw [if_pos c2, if_pos d2, s, e, if_neg (by simp), if_pos rfl, bne_self_eq_false]
        exact fin
      | false =>
        have s := f3 e
        rw [e] at fin
        cases c2 : (sumGo 0 (l.take j)).2 with
        | false => simp [fin]
        | true =>
          cases d2 : (sumGo 0 (l.drop j)).2 with
          | false => simp [fin]
          | true =>
            rw [c2, d2] at s
            have s' : (addS (sumGo 0 (l.take j)).1 (sumGo 0 (l.drop j)).1).2 = false := by simpa using s
            simp [s', fin]
    have go := order_loop l (by omega) (j : Int) (sumGo 0 l).1 (sumGo 0 l).2 true l.length [] (Nat.le_refl _) (by simp; omega) (by
      simpa using last)
    obtain ⟨K, hK⟩ := go
    obtain ⟨K1, hK1⟩ := sum_ok l (by omega)
    refine ⟨K + K1, fun k hk => ?_⟩
    have h := hK k (by omega)
    have h1 := hK1 k (by omega)
    simp only at h h1
    show lighterlaw01_NumsOrder.f k l a1 = some true
    unfold lighterlaw01_NumsOrder.f
    rw [if_neg h60, w1, w2, w3, if_neg (by omega), h1, Option.bind_some, Int.tmod_eq_emod_of_nonneg (by omega), hj]
    exact h

end Go.Proofs.Ytihlaamcepgipaa.Pure
