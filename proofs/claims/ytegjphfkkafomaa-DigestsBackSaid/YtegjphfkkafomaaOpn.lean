/- A digest, and two bytes, that came in by value. -/
import Derived.Test.YtegjphfkkafomaaDg0
import Derived.ChangeArms
import Derived.Lib.LaidTab
namespace Go.Proofs.Ytegjphfkkafomaa.Dg
open Go.RowKit Go.Proofs Go.Proofs.YtegjphfkkafomaaW.PrintWords Go.Proofs.YtegjphfkkafomaaW.PrintLast Go.Proofs.YtegjphfkkafomaaW.PrintMore

section
variable {H : Type} {enc : TypeId × Value → H} {P : Program} {w : World} {base : Nat} {sp : Nat → Bool} {held : Bool}
/-- An array of bytes that reads as data holds bytes. -/
theorem bytes_of_array {fuel : Nat} {t e : TypeId} {n : Nat} {cs : List Value} {x : DataW H × List MemPlace} (ht : P.underlying t = some (.array n e)) (he : P.underlying e = some (.int .u8)) (hce : P.cellsOf e = 1) (hct : P.cellsOf t = n)
    (h : DataW.trod enc P w base sp held fuel t cs = some x) : ∃ l : List Nat, l.length = n ∧ (∀ x ∈ l, x < 256) ∧ cs = cells8 l := by
  cases fuel with
  | zero => simp [DataW.trod] at h
  | succ fuel =>
    simp only [DataW.trod, ht] at h
    split at h
    · rename_i hl
      rw [hct] at hl
      obtain ⟨xs, hm, hx⟩ := Option.map_eq_some_iff.1 h
      have each : ∀ i, i < n → ∃ z : Nat, z < 256 ∧ cs[i]? = some (.int .u8 (z : Int)) := by
        intro i hi
        obtain ⟨b, hb, hf1⟩ := Lib.mapM_at hm i i (by simp [hi])
        rw [hce] at hf1
        obtain ⟨z, hc, _, hw⟩ := DataW.trod_int he hf1
        have h1 : cs[i]? = some (.int .u8 z) := by
          have := congrArg (·[0]?) hc
          simpa [List.getElem?_take, List.getElem?_drop] using this
        have hz : 0 ≤ z ∧ z < 256 := by
          simp only [Lit.wf, IntKind.min, IntKind.max, IntKind.signed, IntKind.bits, Bool.and_eq_true] at hw
          simp at hw
          omega
        obtain ⟨m, rfl⟩ := Int.eq_ofNat_of_zero_le hz.1
        exact ⟨m, by omega, h1⟩
      refine ⟨cs.map fun v => (intOf v).toNat, by rw [List.length_map, hl], ?_, ?_⟩
      · intro x hx
        obtain ⟨v, hv, rfl⟩ := List.mem_map.1 hx
        obtain ⟨i, hi⟩ := List.getElem?_of_mem hv
        obtain ⟨z, hz, hc⟩ := each i (by rw [← hl]; exact (List.getElem?_eq_some_iff.1 hi).1)
        rw [hc] at hi
        obtain rfl := Option.some.inj hi
        simpa [intOf] using hz
      · apply List.ext_getElem?
        intro i
        unfold cells8
        rw [List.map_map, List.getElem?_map]
        by_cases hi : i < n
        · obtain ⟨z, hz, hc⟩ := each i hi
          rw [hc]
          simp [intOf]
        · rw [List.getElem?_eq_none (by omega)]
          rfl
    · cases h
theorem cells?_get {n : Nat} {a : Addr} {cs : List Value} (h : w.cells? base a n = some cs) : ∀ j v, cs[j]? = some v → w.cell? (a.add j) = some v := by
  intro j v hj
  unfold World.cells? at h
  split at h
  · have hl := Lib.mapM_length h
    have hjn : j < n := by
      have := (List.getElem?_eq_some_iff.1 hj).1
      simp at hl
      omega
    obtain ⟨b, hb, hf⟩ := Lib.mapM_at h j j (by simp [hjn])
    rw [hj] at hb
    obtain rfl := Option.some.inj hb
    exact hf
  · cases h
end
theorem cellsOf24 : Try.prog.cellsOf 24 = 32 := by kernel_rfl
theorem cellsOf5 : Try.prog.cellsOf 5 = 1 := by kernel_rfl
theorem cellsOf32 : Try.prog.cellsOf 32 = 2 := by kernel_rfl
theorem array_arg {H : Type} {enc : TypeId × Value → H} {w : World} {base b0 : Nat} {sp : Nat → Bool} {held : Bool} {r : Reach} {t : TypeId} {n : Nat} {v : Value} {d : DataW H} {ps : List MemPlace} (ht : Try.prog.underlying t = some (.array n 5)) (hc : Try.prog.cellsOf t = n)
    (hv : Value.okWide Try.prog w r b0 t v) (h : DataW.Trod enc Try.prog w base sp held t v d ps) : ∃ l : List Nat, l.length = n ∧ (∀ x ∈ l, x < 256) ∧ v = .agg (cells8 l).toArray := by
  unfold Value.okWide at hv
  rw [ht] at hv
  obtain ⟨cs, rfl, _, _⟩ := hv
  obtain ⟨fuel, hf⟩ := h
  obtain ⟨l, h1, h2, h3⟩ := bytes_of_array ht Try.underlying5 cellsOf5 hc hf
  refine ⟨l, h1, h2, ?_⟩
  congr 1
  apply Array.toList_inj.1
  rw [List.toList_toArray]
  exact h3
end Go.Proofs.Ytegjphfkkafomaa.Dg
