/- What came in reads as bytes. -/
import Derived.Test.YtidnkckfkgaooaaOpn
import Derived.Test.YtidnkckfkgaooaaAl27
namespace Go.Proofs.Ytidnkckfkgaooaa.Al
open Go.RowKit Go.Shelf Go.Proofs Go.Proofs.Ytidnkckfkgaooaa.Ext Go.Proofs.Ytidnkckfkgaooaa.Pure Go.Proofs.YtidnkckfkgaooaaW.PrintWords Go.Proofs.YtidnkckfkgaooaaW.PrintLast Go.Proofs.YtidnkckfkgaooaaW.PrintMore
section
variable {H : Type} {enc : TypeId × Value → H} {w : World} {base : Nat} {sp : Nat → Bool} {held : Bool}
theorem u8_open {o : Option Addr} {l c : Nat} {d : DataW H} {ps : List MemPlace} (h : DataW.Trod enc Try.prog w base sp held 64 (.slice o l c) d ps) : ∃ A, U8Row w (.slice o l c) A := by
  obtain ⟨fuel, hf⟩ := h
  rcases DataW.trod_slice Try.underlying64 hf with ⟨hcs, _⟩ | ⟨a, len, cap, elems, rest, n, _, hcs, _, hb, hl, hm, hlen, hel, _, _⟩
  · simp [Value.cells] at hcs
    obtain ⟨rfl, rfl, rfl⟩ := hcs
    exact ⟨[], .inl ⟨rfl, rfl⟩⟩
  · simp [Value.cells] at hcs
    obtain ⟨rfl, rfl, rfl⟩ := hcs
    have each : ∀ i : Nat, i < l → ∃ x : Nat, w.cell? (a.add i) = some (.int .u8 (x : Int)) ∧ x < 256 := by
      intro i hi
      have h1 := hel i hi
      rw [List.getElem?_eq_getElem (by omega), Option.bind_eq_some_iff, cellsOf5] at h1
      obtain ⟨cs, h2, h3⟩ := h1
      obtain ⟨k, rfl, _, k2⟩ := DataW.trod_int Try.underlying5 h3
      have hk : 0 ≤ k ∧ k < 256 := by
        simp only [Lit.wf, IntKind.min, IntKind.max, IntKind.signed, IntKind.bits, Bool.and_eq_true] at k2
        simp at k2
        omega
      have := cells?_get h2 0 _ rfl
      rw [add_none, Nat.mul_one] at this
      exact ⟨k.toNat, by rw [Int.toNat_of_nonneg hk.1]; exact this, by omega⟩
    obtain ⟨f, hf⟩ : ∃ f : Nat → Nat, ∀ i, i < l → w.cell? (a.add i) = some (.int .u8 (f i : Int)) ∧ f i < 256 := by
      refine ⟨fun i => if h : i < l then Classical.choose (each i h) else 0, fun i hi => ?_⟩
      simp only [dif_pos hi]
      exact Classical.choose_spec (each i hi)
    refine ⟨(List.range l).map f, .inr ⟨a, c, by simp, ?_⟩⟩
    intro i m hm
    rw [List.getElem?_map] at hm
    obtain ⟨j, hj, rfl⟩ := Option.map_eq_some_iff.1 hm
    obtain ⟨hj1, rfl⟩ := List.getElem?_eq_some_iff.1 hj
    simp only [List.getElem_range] at *
    exact hf i (by simpa using hj1)
end
end Go.Proofs.Ytidnkckfkgaooaa.Al
