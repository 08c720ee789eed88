/- What came in reads as extents, as acts. -/
import Derived.Test.YtidnkckfkgaooaaAl15
import Derived.ChangeArms
import Derived.Lib.LaidTab
namespace Go.Proofs.Ytidnkckfkgaooaa.Al
open Go.RowKit Go.Shelf Go.Proofs Go.Proofs.Ytidnkckfkgaooaa.Ext Go.Proofs.Ytidnkckfkgaooaa.Pure Go.Proofs.YtidnkckfkgaooaaW.PrintWords Go.Proofs.YtidnkckfkgaooaaW.PrintLast Go.Proofs.YtidnkckfkgaooaaW.PrintMore

section
variable {H : Type} {enc : TypeId × Value → H} {P : Program} {w : World} {base : Nat} {sp : Nat → Bool} {held : Bool}
theorem trod_parts {fuel : Nat} {t : TypeId} {fs : Array Field} {tos : List (TypeId × Nat)} {n : Nat} {cs : List Value} {x : DataW H × List MemPlace} (ht : P.underlying t = some (.struct fs)) (hf : fs.toList.map (fun f => (f.type, f.offset)) = tos) (hct : P.cellsOf t = n)
    (h : DataW.trod enc P w base sp held fuel t cs = some x) : cs.length = n ∧ ∃ g, ∀ (i : Nat) (u : TypeId) (o : Nat), tos[i]? = some (u, o) → ∃ y, DataW.trod enc P w base sp held g u ((cs.drop o).take (P.cellsOf u)) = some y := by
  cases fuel with
  | zero => simp [DataW.trod] at h
  | succ fuel =>
    simp only [DataW.trod, ht] at h
    split at h
    · rename_i hl
      rw [hct] at hl
      obtain ⟨xs, hm, hx⟩ := Option.map_eq_some_iff.1 h
      refine ⟨hl, fuel, fun i u o hi => ?_⟩
      rw [← hf, List.getElem?_map, Option.map_eq_some_iff] at hi
      obtain ⟨f, hfi, he⟩ := hi
      obtain ⟨b, hb, hf1⟩ := Lib.mapM_at hm i f hfi
      simp only [Prod.mk.injEq] at he
      obtain ⟨rfl, rfl⟩ := he
      exact ⟨_, hf1⟩
    · cases h
theorem cells?_get {n : Nat} {a : Addr} {cs : List Value} (h : w.cells? base a n = some cs) : ∀ j v, cs[j]? = some v → w.cell? (a.add j) = some v := by
  intro j v hj
  unfold World.cells? at h
  split at h
  · have hl := Lib.mapM_length h
    have hjn : j < n := by
      have := (List.getElem?_eq_some_iff.1 hj).1
      simp at hl
      omega
    obtain ⟨b, hb, hf⟩ := Lib.mapM_at h j j (by simp [hjn])
    rw [hj] at hb
    obtain rfl := Option.some.inj hb
    exact hf
  · cases h
end
noncomputable def partsOf (t : TypeId) : List (TypeId × Nat) := match Try.prog.underlying t with
  | some (.struct fs) => fs.toList.map (fun f => (f.type, f.offset))
  | _ => []
theorem parts_of {t : TypeId} {x : TypeId × Nat} {r : List (TypeId × Nat)} (h : partsOf t = x :: r) : ∃ fs, Try.prog.underlying t = some (.struct fs) ∧ fs.toList.map (fun f => (f.type, f.offset)) = x :: r := by
  unfold partsOf at h
  split at h
  · exact ⟨_, by assumption, h⟩
  · cases h
theorem parts43 : partsOf 43 = [(3, 0), (3, 1)] := by kernel_rfl
theorem parts55 : partsOf 55 = [(5, 0), (3, 1), (39, 2)] := by kernel_rfl
theorem cellsOf43 : Try.prog.cellsOf 43 = 2 := by kernel_rfl
theorem cellsOf55 : Try.prog.cellsOf 55 = 3 := by kernel_rfl
theorem cellsOf3 : Try.prog.cellsOf 3 = 1 := by kernel_rfl
theorem cellsOf5 : Try.prog.cellsOf 5 = 1 := by kernel_rfl
theorem cellsOf39 : Try.prog.cellsOf 39 = 1 := by kernel_rfl
section
variable {H : Type} {enc : TypeId × Value → H} {w : World} {base : Nat} {sp : Nat → Bool} {held : Bool}
theorem wf_i64 {z : Int} (h : (Lit.int .i64 z).wf = true) : I64 z := by
  simp only [Lit.wf, IntKind.min, IntKind.max, IntKind.signed, IntKind.bits, Bool.and_eq_true] at h
  simp at h
  unfold I64
  omega
theorem one_i64 {fuel : Nat} {cs : List Value} {x : DataW H × List MemPlace} (h : DataW.trod enc Try.prog w base sp held fuel 3 cs = some x) : ∃ z, cs = [.int .i64 z] ∧ I64 z := by
  obtain ⟨z, hc, _, hw⟩ := DataW.trod_int Try.underlying3 h
  exact ⟨z, hc, wf_i64 hw⟩
theorem take1 {cs : List Value} {o : Nat} {v : Value} (h : (cs.drop o).take 1 = [v]) : cs[o]? = some v := by
  have := congrArg (·[0]?) h
  simpa [List.getElem?_take, List.getElem?_drop] using this
theorem ext_of_trod {fuel : Nat} {cs : List Value} {x : DataW H × List MemPlace} (h : DataW.trod enc Try.prog w base sp held fuel 43 cs = some x) : ∃ f c, cs = [.int .i64 f, .int .i64 c] ∧ I64 f ∧ I64 c := by
  obtain ⟨fs, h1, h2⟩ := parts_of parts43
  obtain ⟨hl, g, hp⟩ := trod_parts h1 h2 cellsOf43 h
  obtain ⟨y0, e0⟩ := hp 0 3 0 rfl
  obtain ⟨y1, e1⟩ := hp 1 3 1 rfl
  rw [cellsOf3] at e0 e1
  obtain ⟨f, f1, f2⟩ := one_i64 e0
  obtain ⟨c, c1, c2⟩ := one_i64 e1
  refine ⟨f, c, ?_, f2, c2⟩
  have a0 := take1 f1
  have a1 := take1 c1
  match cs, hl with
  | [u, v], _ =>
    simp at a0 a1
    rw [a0, a1]
theorem row_of_trod {fuel : Nat} {cs : List Value} {x : DataW H × List MemPlace} (h : DataW.trod enc Try.prog w base sp held fuel 39 cs = some x) : ∃ v L, cs = [v] ∧ ExRow w v L ∧ ∀ y ∈ L, I64 y.1 ∧ I64 y.2 := by
  rcases DataW.trod_slice Try.underlying39 h with ⟨hcs, _⟩ | ⟨a, l, c, elems, rest, n, _, hcs, _, hb, hl, hm, hlen, hel, _, _⟩
  · exact ⟨_, [], hcs, .inl ⟨rfl, rfl⟩, fun y hy => by cases hy⟩
  · have each : ∀ i : Nat, i < l → ∃ y : Int × Int, (w.cell? (a.add (i * 2)) = some (.int .i64 y.1) ∧ w.cell? (a.add (i * 2 + 1)) = some (.int .i64 y.2)) ∧ I64 y.1 ∧ I64 y.2 := by
      intro i hi
      have h1 := hel i hi
      rw [List.getElem?_eq_getElem (by omega), Option.bind_eq_some_iff, cellsOf43] at h1
      obtain ⟨cs, h2, h3⟩ := h1
      obtain ⟨f, c, rfl, h4, h5⟩ := ext_of_trod h3
      refine ⟨(f, c), ⟨?_, ?_⟩, h4, h5⟩
      · have := cells?_get h2 0 _ rfl
        rw [Addr.add_twice] at this
        exact this
      · have := cells?_get h2 1 _ rfl
        rw [Addr.add_twice] at this
        exact this
    obtain ⟨f, hf⟩ : ∃ f : Nat → Int × Int, ∀ i, i < l → (w.cell? (a.add (i * 2)) = some (.int .i64 (f i).1) ∧ w.cell? (a.add (i * 2 + 1)) = some (.int .i64 (f i).2)) ∧ I64 (f i).1 ∧ I64 (f i).2 := by
      refine ⟨fun i => if h : i < l then Classical.choose (each i h) else (0, 0), fun i hi => ?_⟩
      simp only [dif_pos hi]
      exact Classical.choose_spec (each i hi)
    refine ⟨_, (List.range l).map f, hcs, .inr ⟨a, c, by simp, ?_⟩, ?_⟩
    · intro i m hm
      rw [List.getElem?_map] at hm
      obtain ⟨j, hj, rfl⟩ := Option.map_eq_some_iff.1 hm
      obtain ⟨hj1, rfl⟩ := List.getElem?_eq_some_iff.1 hj
      simp only [List.getElem_range] at *
      exact (hf i (by simpa using hj1)).1
    · intro m hm
      obtain ⟨i, hi, rfl⟩ := List.mem_map.1 hm
      exact (hf i (List.mem_range.1 hi)).2
theorem act_of_trod {fuel : Nat} {cs : List Value} {x : DataW H × List MemPlace} (h : DataW.trod enc Try.prog w base sp held fuel 55 cs = some x) : ∃ y : ActV, cs = [.int .u8 y.kind, .int .i64 y.n, y.v] ∧ ActOk w y := by
  obtain ⟨fs, h1, h2⟩ := parts_of parts55
  obtain ⟨hl, g, hp⟩ := trod_parts h1 h2 cellsOf55 h
  obtain ⟨y0, e0⟩ := hp 0 5 0 rfl
  obtain ⟨y1, e1⟩ := hp 1 3 1 rfl
  obtain ⟨y2, e2⟩ := hp 2 39 2 rfl
  rw [cellsOf5] at e0
  rw [cellsOf3] at e1
  rw [cellsOf39] at e2
  obtain ⟨k, k1, _, k2⟩ := DataW.trod_int Try.underlying5 e0
  obtain ⟨n, n1, n2⟩ := one_i64 e1
  obtain ⟨v, L, v1, v2, v3⟩ := row_of_trod e2
  have hk : 0 ≤ k ∧ k < 256 := by
    simp only [Lit.wf, IntKind.min, IntKind.max, IntKind.signed, IntKind.bits, Bool.and_eq_true] at k2
    simp at k2
    omega
  refine ⟨⟨k, n, v, L⟩, ?_, v2, hk.1, hk.2, n2, v3⟩
  have a0 := take1 k1
  have a1 := take1 n1
  have a2 := take1 v1
  match cs, hl with
  | [u, v', v''], _ =>
    simp at a0 a1 a2
    rw [a0, a1, a2]
/-- An act that came in, by value. -/
theorem act_open {b0 : Nat} {v : Value} {d : DataW H} {ps : List MemPlace} (hv : Value.okWide Try.prog w .any b0 55 v) (h : DataW.Trod enc Try.prog w base sp held 55 v d ps) : ∃ y : ActV, v = .agg #[.int .u8 y.kind, .int .i64 y.n, y.v] ∧ ActOk w y := by
  obtain ⟨fs, h1, _⟩ := parts_of parts55
  obtain ⟨cs, rfl, _⟩ := WideShapes.okWide_struct h1 hv
  obtain ⟨fuel, hf⟩ := h
  obtain ⟨y, h2, h3⟩ := act_of_trod hf
  refine ⟨y, ?_, h3⟩
  congr 1
  apply Array.toList_inj.1
  exact h2
/-- A list of acts that came in. -/
theorem acts_open {v : Value} {d : DataW H} {ps : List MemPlace} (hv : ∃ o l c, v = .slice o l c) (h : DataW.Trod enc Try.prog w base sp held 48 v d ps) : ∃ A, ActRow w v A := by
  obtain ⟨o, l, c, rfl⟩ := hv
  obtain ⟨fuel, hf⟩ := h
  rcases DataW.trod_slice Try.underlying48 hf with ⟨hcs, _⟩ | ⟨a, len, cap, elems, rest, n, _, hcs, _, hb, hl, hm, hlen, hel, _, _⟩
  · simp [Value.cells] at hcs
    obtain ⟨rfl, rfl, rfl⟩ := hcs
    exact ⟨[], .inl ⟨rfl, rfl⟩⟩
  · simp [Value.cells] at hcs
    obtain ⟨rfl, rfl, rfl⟩ := hcs
    have each : ∀ i : Nat, i < l → ∃ y : ActV, ActAt w (a.add (i * 3)) y := by
      intro i hi
      have h1 := hel i hi
      rw [List.getElem?_eq_getElem (by omega), Option.bind_eq_some_iff, cellsOf55] at h1
      obtain ⟨cs, h2, h3⟩ := h1
      obtain ⟨y, rfl, hy⟩ := act_of_trod h3
      refine ⟨y, ?_, ?_, ?_, hy⟩
      · have := cells?_get h2 0 _ rfl
        rw [add_none] at this
        exact this
      · exact cells?_get h2 1 _ rfl
      · exact cells?_get h2 2 _ rfl
    obtain ⟨f, hf⟩ : ∃ f : Nat → ActV, ∀ i, i < l → ActAt w (a.add (i * 3)) (f i) := by
      refine ⟨fun i => if h : i < l then Classical.choose (each i h) else ⟨0, 0, undef, []⟩, fun i hi => ?_⟩
      simp only [dif_pos hi]
      exact Classical.choose_spec (each i hi)
    refine ⟨(List.range l).map f, .inr ⟨a, c, by simp, ?_⟩⟩
    intro i m hm
    rw [List.getElem?_map] at hm
    obtain ⟨j, hj, rfl⟩ := Option.map_eq_some_iff.1 hm
    obtain ⟨hj1, rfl⟩ := List.getElem?_eq_some_iff.1 hj
    simp only [List.getElem_range] at *
    exact hf i (by simpa using hj1)
end
end Go.Proofs.Ytidnkckfkgaooaa.Al
