/- What BitsNumber's plain function answers: true, for every number, every size, every text. -/
import Derived.Test.YtidnkckfkgaooaaBitsD
namespace Go.Proofs.Ytidnkckfkgaooaa.Pure
open Go.RowKit Go.Proofs.Ytidnkckfkgaooaa.Q Go.Proofs.Ytidnkckfkgaooaa.Ext Go.Proofs.YtidnkckfkgaooaaW.PrintWords Go.Proofs.YtidnkckfkgaooaaW.PrintLast Go.Proofs.YtidnkckfkgaooaaW.PrintMore

theorem number_loop (n size : Int) (s : ByteArray) (h0 : 0 ≤ n) (h1 : n < 18446744073709551616) (hs : s.size ≤ 200) (d : Nat) : ∀ j : Int, -1 ≤ j → j + d = 10 → Ev (fun k => lighterlaw02_BitsNumber.l0 k n size s j) true := by
  induction d with
  | zero =>
    intro j _ hj
    obtain ⟨K1, hK1⟩ := refPut_ok n size h0 h1
    obtain ⟨K2, hK2⟩ := get_ok s (by omega)
    obtain ⟨K3, hK3⟩ := refGet_ok s (by omega)
    obtain ⟨K4, hK4⟩ := shown_bind
    refine ⟨K1 + K2 + K3 + K4 + 1, fun k hk => ?_⟩
    obtain ⟨k, rfl⟩ : ∃ m, k = m + 1 := ⟨k - 1, by omega⟩
    have g1 := hK1 k (by omega)
    have g2 := hK2 k (by omega)
    have g3 := hK3 k (by omega)
    have g4 := hK4 k (by omega)
    simp only at g1 g2 g3 g4
    show lighterlaw02_BitsNumber.l0 (k + 1) _ _ _ _ = _
    simp only [lighterlaw02_BitsNumber.l0]
    rw [if_neg (by omega), put_ok n size h0 h1, Option.bind_some, g1, Option.bind_some, if_pos rfl, g2, Option.bind_some, g3, Option.bind_some, if_pos rfl, g4]
  | succ d ih =>
    intro j hj hd
    obtain ⟨K1, hK1⟩ := refPut_ok n j h0 h1
    obtain ⟨K2, hK2⟩ := ih (j + 1) (by omega) (by omega)
    refine ⟨K1 + K2 + 1, fun k hk => ?_⟩
    obtain ⟨k, rfl⟩ : ∃ m, k = m + 1 := ⟨k - 1, by omega⟩
    have g1 := hK1 k (by omega)
    have g2 := hK2 k (by omega)
    simp only at g1 g2
    show lighterlaw02_BitsNumber.l0 (k + 1) _ _ _ _ = _
    simp only [lighterlaw02_BitsNumber.l0]
    rw [if_pos (by omega), put_ok n j h0 h1, Option.bind_some, g1, Option.bind_some, if_pos rfl, wrap64_id (by unfold I64; omega)]
    exact g2

theorem BitsNumber : lighterlaw02_BitsNumber.Pure := by
  intro n size s hn hz hs
  refine Ev.rounds ?_
  have hu : 0 ≤ n ∧ n < 18446744073709551616 := by
    simp only [Lit.wf, IntKind.min, IntKind.max, IntKind.signed, IntKind.bits, Bool.and_eq_true] at hn
    simp at hn
    omega
  by_cases h : (s.size : Int) > 200
  · refine Ev.congr (f := fun k => (lighterlaw02_shown.f k).bind fun t => some t) (fun k => ?_) shown_bind
    unfold lighterlaw02_BitsNumber.f
    rw [if_pos h]
  · refine Ev.congr (fun k => ?_) (number_loop n size s hu.1 hu.2 (by omega) 11 (-1) (by omega) (by omega))
    unfold lighterlaw02_BitsNumber.f
    rw [if_neg h]

end Go.Proofs.Ytidnkckfkgaooaa.Pure
