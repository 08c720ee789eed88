/- A list of digests that came in reads as digests. -/
import Derived.Test.YtegjphfkkafomaaDoorMrg
import Derived.Test.YtegjphfkkafomaaDoorSha16
import Derived.ChangeArms
import Derived.Lib.LaidTab
namespace Go.Proofs.YtegjphfkkafomaaDoor.Sha
open Go.RowKit Go.Proofs Go.Proofs.YtegjphfkkafomaaDoor.Q Go.Proofs.YtegjphfkkafomaaDoorW.PrintWords Go.Proofs.YtegjphfkkafomaaDoorW.PrintLast Go.Proofs.YtegjphfkkafomaaDoorW.PrintMore

section
variable {H : Type} {enc : TypeId × Value → H} {P : Program} {w : World} {base : Nat} {sp : Nat → Bool} {held : Bool}
/-- An array of bytes that reads as data holds bytes. -/
theorem bytes_of_array {fuel : Nat} {t e : TypeId} {n : Nat} {cs : List Value} {x : DataW H × List MemPlace} (ht : P.underlying t = some (.array n e)) (he : P.underlying e = some (.int .u8)) (hce : P.cellsOf e = 1) (hct : P.cellsOf t = n)
    (h : DataW.trod enc P w base sp held fuel t cs = some x) : ∃ l : List Nat, l.length = n ∧ (∀ x ∈ l, x < 256) ∧ cs = cells8 l := by
  cases fuel with
  | zero => simp [DataW.trod] at h
  | succ fuel =>
    simp only [DataW.trod, ht] at h
    split at h
    · rename_i hl
      rw [hct] at hl
      obtain ⟨xs, hm, hx⟩ := Option.map_eq_some_iff.1 h
      have each : ∀ i, i < n → ∃ z : Nat, z < 256 ∧ cs[i]? = some (.int .u8 (z : Int)) := by
        intro i hi
        obtain ⟨b, hb, hf1⟩ := Lib.mapM_at hm i i (by simp [hi])
        rw [hce] at hf1
        obtain ⟨z, hc, _, hw⟩ := DataW.trod_int he hf1
        have h1 : cs[i]? = some (.int .u8 z) := by
          have := congrArg (·[0]?) hc
          simpa [List.getElem?_take, List.getElem?_drop] using this
        have hz : 0 ≤ z ∧ z < 256 := by
          simp only [Lit.wf, IntKind.min, IntKind.max, IntKind.signed, IntKind.bits, Bool.and_eq_true] at hw
          simp at hw
          omega
        obtain ⟨m, rfl⟩ := Int.eq_ofNat_of_zero_le hz.1
        exact ⟨m, by omega, h1⟩
      refine ⟨cs.map fun v => (intOf v).toNat, by rw [List.length_map, hl], ?_, ?_⟩
      · intro x hx
        obtain ⟨v, hv, rfl⟩ := List.mem_map.1 hx
        obtain ⟨i, hi⟩ := List.getElem?_of_mem hv
        obtain ⟨z, hz, hc⟩ := each i (by rw [← hl]; exact (List.getElem?_eq_some_iff.1 hi).1)
        rw [hc] at hi
        obtain rfl := Option.some.inj hi
        simpa [intOf] using hz
      · apply List.ext_getElem?
        intro i
        unfold cells8
        rw [List.map_map, List.getElem?_map]
        by_cases hi : i < n
        · obtain ⟨z, hz, hc⟩ := each i hi
          rw [hc]
          simp [intOf]
        · rw [List.getElem?_eq_none (by omega)]
          rfl
    · cases h
theorem cells?_get {n : Nat} {a : Addr} {cs : List Value} (h : w.cells? base a n = some cs) : ∀ j v, cs[j]? = some v → w.cell? (a.add j) = some v := by
  intro j v hj
  unfold World.cells? at h
  split at h
  · have hl := Lib.mapM_length h
    have hjn : j < n := by
      have := (List.getElem?_eq_some_iff.1 hj).1
      simp at hl
      omega
    obtain ⟨b, hb, hf⟩ := Lib.mapM_at h j j (by simp [hjn])
    rw [hj] at hb
    obtain rfl := Option.some.inj hb
    exact hf
  · cases h
end
theorem cellsOf24 : Tryd.prog.cellsOf 24 = 32 := by kernel_rfl
theorem cellsOf5 : Tryd.prog.cellsOf 5 = 1 := by kernel_rfl
/-- A slice of digests that came in. -/
theorem drow_of {H : Type} {enc : TypeId × Value → H} {w : World} {base : Nat} {sp : Nat → Bool} {held : Bool} {v : Value} {d : DataW H} {ps : List MemPlace} (hv : ∃ o l c, v = .slice o l c)
    (h : DataW.Trod enc Tryd.prog w base sp held 42 v d ps) : ∃ xs, DRow w v xs := by
  obtain ⟨o, l, c, rfl⟩ := hv
  obtain ⟨fuel, hf⟩ := h
  rcases DataW.trod_slice Tryd.underlying42 hf with ⟨hcs, _⟩ | ⟨a, len, cap, elems, rest, n, _, hcs, _, hb, hl, hm, hlen, hel, _, _⟩
  · simp [Value.cells] at hcs
    obtain ⟨rfl, rfl, rfl⟩ := hcs
    exact ⟨[], ⟨(fun l hl => by cases hl), .inl ⟨rfl, rfl⟩⟩⟩
  · simp [Value.cells] at hcs
    obtain ⟨rfl, rfl, rfl⟩ := hcs
    have each : ∀ i : Nat, i < l → ∃ m : List Nat, m.length = 32 ∧ (∀ x ∈ m, x < 256) ∧ DigAt w (a.add (i * 32)) m := by
      intro i hi
      have h1 := hel i hi
      rw [List.getElem?_eq_getElem (by omega), Option.bind_eq_some_iff, cellsOf24] at h1
      obtain ⟨cs, h2, h3⟩ := h1
      obtain ⟨m, hm1, hm2, rfl⟩ := bytes_of_array und24 Tryd.underlying5 cellsOf5 cellsOf24 h3
      exact ⟨m, hm1, hm2, cells?_get h2⟩
    obtain ⟨f, hf⟩ : ∃ f : Nat → List Nat, ∀ i, i < l → (f i).length = 32 ∧ (∀ x ∈ f i, x < 256) ∧ DigAt w (a.add (i * 32)) (f i) := by
      refine ⟨fun i => if h : i < l then Classical.choose (each i h) else [], fun i hi => ?_⟩
      simp only [dif_pos hi]
      exact Classical.choose_spec (each i hi)
    refine ⟨(List.range l).map f, ?_, .inr ⟨a, c, by simp, ?_⟩⟩
    · intro m hm
      obtain ⟨i, hi, rfl⟩ := List.mem_map.1 hm
      have := hf i (List.mem_range.1 hi)
      exact ⟨this.1, this.2.1⟩
    · intro i m hm
      rw [List.getElem?_map] at hm
      obtain ⟨j, hj, rfl⟩ := Option.map_eq_some_iff.1 hm
      obtain ⟨hj1, rfl⟩ := List.getElem?_eq_some_iff.1 hj
      simp only [List.getElem_range] at *
      exact (hf i (by simpa using hj1)).2.2
end Go.Proofs.YtegjphfkkafomaaDoor.Sha
