/- What BitsBack's plain function answers: true, for every number, every text, whichever bit. -/
import Derived.Test.YtidnkckfkgaooaaBitsE
namespace Go.Proofs.Ytidnkckfkgaooaa.Pure
open Go.RowKit Go.Proofs.Ytidnkckfkgaooaa.Q Go.Proofs.Ytidnkckfkgaooaa.Ext Go.Proofs.YtidnkckfkgaooaaW.PrintWords Go.Proofs.YtidnkckfkgaooaaW.PrintLast Go.Proofs.YtidnkckfkgaooaaW.PrintMore

theorem back_loop (s : ByteArray) (i : Nat) (hs : s.size ≤ 60) (hi : i < 8 * s.size) (d : Nat) : ∀ j : Nat, j + d = 8 * s.size →
    Ev (fun k => lighterlaw02_BitsBack.l0 k s (i : Int) (withS s i true) (withS s i false) (j : Int)) true := by
  have e8 : wrap64 (8 * (s.size : Int)) = 8 * (s.size : Int) := wrap64_id (by unfold I64; omega)
  have s1 := withS_size s i true
  have s2 := withS_size s i false
  induction d with
  | zero =>
    intro j hj
    obtain rfl : j = 8 * s.size := by omega
    obtain ⟨K1, hK1⟩ := count_ok (withS s i true) (by omega)
    obtain ⟨K2, hK2⟩ := count_ok (withS s i false) (by omega)
    obtain ⟨K3, hK3⟩ := shown_bind
    have ec : countN (withS s i true) = countN (withS s i false) + 1 := by
      unfold countN
      rw [s1, s2, countTo_one (withS s i true) (withS s i false) i (fun j => by rw [withS_bit s i j true hi, withS_bit s i j false hi]; split <;> simp_all) (by rw [withS_bit s i i false hi, if_pos rfl]), if_pos hi]
    have cl := countN_le (withS s i false)
    have eb : withI (withS s i true) (i : Int) (hasB s i) = s := by
      rw [withI_in _ _ _ (by omega)]
      apply text_ext
      · rw [withS_size, s1]
      · intro j _
        rw [withS_bit _ _ _ _ (by omega), withS_bit s i j true hi]
        by_cases e : j = i
        · subst e; rw [if_pos rfl]
        · rw [if_neg e, if_neg e]
    refine ⟨K1 + K2 + K3 + 1, fun k hk => ?_⟩
    obtain ⟨k, rfl⟩ : ∃ m, k = m + 1 := ⟨k - 1, by omega⟩
    have g1 := hK1 k (by omega)
    have g2 := hK2 k (by omega)
    have g3 := hK3 k (by omega)
    simp only at g1 g2 g3
    show lighterlaw02_BitsBack.l0 (k + 1) _ _ _ _ _ = _
    simp only [lighterlaw02_BitsBack.l0]
    rw [e8, if_neg (by omega), g1, Option.bind_some, g2, Option.bind_some, wrap_succ _ (by omega), if_pos (by omega), has_ok s (i : Int) (by omega) (by unfold I64; omega), Option.bind_some, hasI_nat, with_ok _ _ _ (by unfold I64; omega), Option.bind_some, eb, if_pos rfl, g3]
  | succ d ih =>
    intro j hj
    obtain ⟨K, hK⟩ := ih (j + 1) (by omega)
    refine ⟨K + 1, fun k hk => ?_⟩
    obtain ⟨k, rfl⟩ : ∃ m, k = m + 1 := ⟨k - 1, by omega⟩
    have g := hK k (by omega)
    simp only at g
    have ji : I64 (j : Int) := by unfold I64; omega
    show lighterlaw02_BitsBack.l0 (k + 1) _ _ _ _ _ = _
    simp only [lighterlaw02_BitsBack.l0]
    rw [e8, if_pos (by omega), has_ok _ _ (by omega) ji, has_ok _ _ (by omega) ji, has_ok _ _ (by omega) ji, hasI_nat, hasI_nat, hasI_nat, withS_bit s i j true hi, withS_bit s i j false hi, wrap_succ j (by omega), g]
    by_cases e : j = i
    · subst e
      cases hasB s j <;> simp
    · have e1 : ((j : Int) == (i : Int)) = false := by rw [beq_eq_false_iff_ne]; omega
      have e2 : ((j : Int) != (i : Int)) = true := by rw [bne_iff_ne]; omega
      rw [if_neg e, if_neg e, e1, e2]
      cases hasB s j <;> simp

theorem BitsBack : lighterlaw02_BitsBack.Pure := by
  intro n s i hn _ hi
  refine Ev.rounds ?_
  have hu : 0 ≤ n ∧ n < 18446744073709551616 := by
    simp only [Lit.wf, IntKind.min, IntKind.max, IntKind.signed, IntKind.bits, Bool.and_eq_true] at hn
    simp at hn
    omega
  have hv : 0 ≤ i ∧ i < 65536 := by
    simp only [Lit.wf, IntKind.min, IntKind.max, IntKind.signed, IntKind.bits, Bool.and_eq_true] at hi
    simp at hi
    omega
  clear hn hi
  by_cases h : (s.size : Int) > 60
  · refine Ev.congr (f := fun k => (lighterlaw02_shown.f k).bind fun t => some t) (fun k => ?_) shown_bind
    unfold lighterlaw02_BitsBack.f
    rw [if_pos h]
  · obtain ⟨N, rfl⟩ := Int.eq_ofNat_of_zero_le hu.1
    obtain ⟨p1, p2⟩ := get_put N 8 (by decide) (by decide)
    obtain ⟨p3, p4⟩ := get_put N 3 (by decide) (by decide)
    have p1' : getN (putS (N : Int) 8) = N := by
      have : getN (putS (N : Int) ((8 : Nat) : Int)) = N % 256 ^ 8 := p1
      rw [show (256 : Nat) ^ 8 = 18446744073709551616 from by decide, Nat.mod_eq_of_lt (by omega)] at this
      exact this
    have p3' : getN (putS (N : Int) 3) = N % 16777216 := by
      have : getN (putS (N : Int) ((3 : Nat) : Int)) = N % 256 ^ 3 := p3
      rw [show (256 : Nat) ^ 3 = 16777216 from by decide] at this
      exact this
    have p2' : (putS (N : Int) 8).size = 8 := p2
    have p4' : (putS (N : Int) 3).size = 3 := p4
    obtain ⟨K1, hK1⟩ := get_ok (putS (N : Int) 8) (by omega)
    obtain ⟨K2, hK2⟩ := get_ok (putS (N : Int) 3) (by omega)
    have ea : Go.bits .and .u64 (N : Int) 16777215 = ((N % 16777216 : Nat) : Int) := by
      rw [show (16777215 : Int) = ((16777215 : Nat) : Int) from rfl, u64_and_nat N 16777215 (by omega) (by decide), show (16777215 : Nat) = 2 ^ 24 - 1 from by decide, Nat.and_two_pow_sub_one_eq_mod]
    have w1 : wrap64 i = i := wrap64_id (by unfold I64; omega)
    have w2 : Int.tmod i 500 = ((i % 500).toNat : Int) := by rw [Int.tmod_eq_emod_of_nonneg (by omega)]; omega
    generalize hm : (i % 500).toNat = m at w2
    have m5 : m < 500 := by omega
    have e8 : wrap64 (8 * (s.size : Int)) = 8 * (s.size : Int) := wrap64_id (by unfold I64; omega)
    have main : Ev (fun k => lighterlaw02_BitsBack.j0 k s i false) true := by
      by_cases hge : 8 * s.size ≤ m
      · obtain ⟨K, hK⟩ := shown_bind
        refine ⟨K + 1, fun k hk => ?_⟩
        obtain ⟨k, rfl⟩ : ∃ m, k = m + 1 := ⟨k - 1, by omega⟩
        have g := hK k (by omega)
        simp only at g
        show lighterlaw02_BitsBack.j0 (k + 1) _ _ _ = _
        simp only [lighterlaw02_BitsBack.j0]
        rw [if_neg (by simp), w1, w2, with_ok _ _ _ (by unfold I64; omega), Option.bind_some, with_ok _ _ _ (by unfold I64; omega), Option.bind_some, e8, if_pos (by omega), withI_out s m true hge, withI_out s m false hge, if_pos rfl, if_pos rfl, g]
      · obtain ⟨K, hK⟩ := back_loop s m (by omega) (by omega) (8 * s.size) 0 (by omega)
        refine ⟨K + 1, fun k hk => ?_⟩
        obtain ⟨k, rfl⟩ : ∃ m, k = m + 1 := ⟨k - 1, by omega⟩
        have g := hK k (by omega)
        simp only at g
        show lighterlaw02_BitsBack.j0 (k + 1) _ _ _ = _
        simp only [lighterlaw02_BitsBack.j0]
        rw [if_neg (by simp), w1, w2, with_ok _ _ _ (by unfold I64; omega), Option.bind_some, with_ok _ _ _ (by unfold I64; omega), Option.bind_some, e8, if_neg (by omega), withI_in s m true (by omega), withI_in s m false (by omega)]
        exact g
    obtain ⟨K3, hK3⟩ := main
    refine ⟨K1 + K2 + K3, fun k hk => ?_⟩
    have g1 := hK1 k (by omega)
    have g2 := hK2 k (by omega)
    have g3 := hK3 k (by omega)
    simp only at g1 g2 g3
    show lighterlaw02_BitsBack.f k _ _ _ = _
    unfold lighterlaw02_BitsBack.f
    rw [if_neg h, put_ok _ _ (by omega) (by omega), Option.bind_some, g1, Option.bind_some, p1', if_pos rfl, put_ok _ _ (by omega) (by omega), Option.bind_some, g2, Option.bind_some, p3', ea, bne_self_eq_false]
    exact g3

end Go.Proofs.Ytidnkckfkgaooaa.Pure
