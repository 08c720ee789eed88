/- A disk and the document's, played side by side: at any input. -/
import Derived.Test.YteblobookpldfaaSf4
import Derived.Test.YteblobookpldfaaOpn
namespace Go.Proofs.Yteblobookpldfaa.Se
open Go.RowKit Go.Shelf Go.Proofs
section
variable {H : Type} {enc : TypeId × Value → H} {w : World} {base : Nat} {sp : Nat → Bool} {held : Bool}
theorem acts_open2 {o : Option Addr} {l c : Nat} {d : DataW H} {ps : List MemPlace} (h : DataW.Trod enc Try.prog w base sp held 22 (.slice o l c) d ps) : ∃ A, ActRow w (.slice o l c) A ∧ A.length ≤ maxLen := by
  obtain ⟨A, hA⟩ := acts_open h
  refine ⟨A, hA, ?_⟩
  obtain ⟨o', c', e⟩ := hA.form
  obtain ⟨_, e2, _⟩ := Value.slice.inj e
  obtain ⟨fuel, hf⟩ := h
  rcases DataW.trod_slice Try.underlying22 hf with ⟨hcs, _⟩ | ⟨a, len, cap, elems, rest, n, _, hcs, _, hb, hl, hm, hlen, hel, _, _⟩
  · simp [Value.cells] at hcs
    obtain ⟨rfl, rfl, rfl⟩ := hcs
    omega
  · simp [Value.cells] at hcs
    obtain ⟨rfl, rfl, rfl⟩ := hcs
    rw [← e2]
    exact Nat.le_trans hl hm
end
theorem sectorsPlay_walk (w : World) (n : Int) {v : Value} (A : List ActV) (h : ActRow w v A ∧ A.length ≤ maxLen) : Calls Try.prog 3 #[.int .i64 n, v] w fun e w' => e = .returned (.bool true) ∧ Below w.heap.size w w' :=
  sectorsPlay_calls w n v A h.1 (Nat.le_trans h.2 (by unfold maxLen; omega))
end Go.Proofs.Yteblobookpldfaa.Se
