/- DigestsBack: the walk, for two bytes as a list. -/
import Derived.Test.YtegjphfkkafomaaDg13
import Derived.Test.YtegjphfkkafomaaOpn
namespace Go.Proofs.Ytegjphfkkafomaa.Dg
open Go.RowKit Go.Proofs
theorem back_walk (a b l : List Nat) (w : World) (ha : a.length = 32) (ba : ∀ x ∈ a, x < 256) (hb : b.length = 32) (bb : ∀ x ∈ b, x < 256) (hl : l.length = 2) (bl : ∀ x ∈ l, x < 256) :
    Calls Try.prog 5 #[.agg (cells8 a).toArray, .agg (cells8 b).toArray, .agg (cells8 l).toArray] w fun e w' => e = .returned (.bool true) ∧ Below w.heap.size w w' := by
  obtain ⟨p, q, rfl⟩ : ∃ p q, l = [p, q] := by
    match l, hl with
    | [p, q], _ => exact ⟨p, q, rfl⟩
  exact back_calls a b p q w ha ba hb bb (bl p (by simp)) (bl q (by simp))
end Go.Proofs.Ytegjphfkkafomaa.Dg
