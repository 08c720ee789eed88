/- A map and the document's, played side by side: the law's walk, at any input. -/
import Derived.Test.YtidnkckfkgaooaaAl35
import Derived.Test.YtidnkckfkgaooaaOpn
namespace Go.Proofs.Ytidnkckfkgaooaa.Al
open Go.RowKit Go.Shelf Go.Proofs Go.Proofs.Ytidnkckfkgaooaa.Ext Go.Proofs.Ytidnkckfkgaooaa.Pure Go.Proofs.YtidnkckfkgaooaaW.PrintWords Go.Proofs.YtidnkckfkgaooaaW.PrintLast Go.Proofs.YtidnkckfkgaooaaW.PrintMore
section
variable {H : Type} {enc : TypeId × Value → H} {w : World} {base : Nat} {sp : Nat → Bool} {held : Bool}
/-- A list of acts that came in. -/
theorem acts_open2 {o : Option Addr} {l c : Nat} {d : DataW H} {ps : List MemPlace} (h : DataW.Trod enc Try.prog w base sp held 48 (.slice o l c) d ps) : ∃ A, ActRow w (.slice o l c) A ∧ A.length ≤ maxLen := by
  obtain ⟨fuel, hf⟩ := h
  rcases DataW.trod_slice Try.underlying48 hf with ⟨hcs, _⟩ | ⟨a, len, cap, elems, rest, n, _, hcs, _, hb, hl, hm, hlen, hel, _, _⟩
  · simp [Value.cells] at hcs
    obtain ⟨rfl, rfl, rfl⟩ := hcs
    exact ⟨[], .inl ⟨rfl, rfl⟩, Nat.zero_le _⟩
  · simp [Value.cells] at hcs
    obtain ⟨rfl, rfl, rfl⟩ := hcs
    have each : ∀ i : Nat, i < l → ∃ y : ActV, ActAt w (a.add (i * 3)) y := by
      intro i hi
      have h1 := hel i hi
      rw [List.getElem?_eq_getElem (by omega), Option.bind_eq_some_iff, cellsOf55] at h1
      obtain ⟨cs, h2, h3⟩ := h1
      obtain ⟨y, rfl, hy⟩ := act_of_trod h3
      refine ⟨y, ?_, ?_, ?_, hy⟩
      · have := cells?_get h2 0 _ rfl
        rw [add_none] at this
        exact this
      · exact cells?_get h2 1 _ rfl
      · exact cells?_get h2 2 _ rfl
    obtain ⟨f, hf⟩ : ∃ f : Nat → ActV, ∀ i, i < l → ActAt w (a.add (i * 3)) (f i) := by
      refine ⟨fun i => if h : i < l then Classical.choose (each i h) else ⟨0, 0, undef, []⟩, fun i hi => ?_⟩
      simp only [dif_pos hi]
      exact Classical.choose_spec (each i hi)
    refine ⟨(List.range l).map f, .inr ⟨a, c, by simp, ?_⟩, by simp; exact Nat.le_trans hl hm⟩
    intro i m hmm
    rw [List.getElem?_map] at hmm
    obtain ⟨j, hj, rfl⟩ := Option.map_eq_some_iff.1 hmm
    obtain ⟨hj1, rfl⟩ := List.getElem?_eq_some_iff.1 hj
    simp only [List.getElem_range] at *
    exact hf i (by simpa using hj1)
end
theorem allocPlay_walk (w : World) (n : Int) (v : Value) (A : List ActV) (h : ActRow w v A ∧ A.length ≤ maxLen) : Calls Try.prog 8 #[.int .i64 n, v] w fun e w' => e = .returned (.bool true) ∧ Below w.heap.size w w' :=
  allocPlay_calls w n v A h.1 (Nat.le_trans h.2 (by unfold maxLen; omega))
end Go.Proofs.Ytidnkckfkgaooaa.Al
