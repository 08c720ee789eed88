/- What a row's list gives: the two tables are laid. -/
import Derived.Test.YtegjphfkkafomaaDoorSha15
import Derived.Test.YtegjphfkkafomaaDoorRows
import Derived.Lib.LaidTab
namespace Go.Proofs.YtegjphfkkafomaaDoor.Sha
open Go.RowKit Go.Proofs Go.Proofs.YtegjphfkkafomaaDoor.Q Go.Proofs.YtegjphfkkafomaaDoorW.PrintWords Go.Proofs.YtegjphfkkafomaaDoorW.PrintLast Go.Proofs.YtegjphfkkafomaaDoorW.PrintMore

/-- A struct of integers that reads as these numbers holds them, cell for cell. -/
theorem cells_of_struct {H : Type} {enc : TypeId × Value → H} {P : Program} {w : World} {base : Nat} {sp : Nat → Bool} {held : Bool} {fuel : Nat} {t e : TypeId} {fs : Array Field} {k : IntKind} {cs : List Value} {zs : List Int} {p : List MemPlace}
    (ht : P.underlying t = some (.struct fs)) (he : P.underlying e = some (.int k)) (hce : P.cellsOf e = 1) (hct : P.cellsOf t = fs.size) (hf : ∀ (i : Nat) f, fs[i]? = some f → f.type = e ∧ f.offset = i)
    (h : DataW.trod enc P w base sp held fuel t cs = some (Lib.tabData k zs, p)) : cs = zs.map fun z => Value.int k z := by
  cases fuel with
  | zero => simp [DataW.trod] at h
  | succ fuel =>
    simp only [DataW.trod, ht] at h
    split at h
    · rename_i hl
      obtain ⟨xs, hm, hx⟩ := Option.map_eq_some_iff.1 h
      have hxs : xs.map (·.1) = zs.map fun z => (DataW.lit (.int k z) : DataW H) := by
        have := congrArg Prod.fst hx
        simpa [Lib.tabData] using this
      have hxl : xs.length = fs.size := by simpa using Lib.mapM_length hm
      have hzl : zs.length = fs.size := by
        have := congrArg List.length hxs
        simp at this
        omega
      apply List.ext_getElem?
      intro i
      by_cases hi : i < fs.size
      · obtain ⟨b, hb, hf1⟩ := Lib.mapM_at hm i fs[i] (by simp [hi])
        obtain ⟨ht1, ho1⟩ := hf i fs[i] (by simp [hi])
        rw [ht1, ho1, hce] at hf1
        obtain ⟨z, hc, rfl, _⟩ := DataW.trod_int he hf1
        have h1 : cs[i]? = some (.int k z) := by
          have := congrArg (·[0]?) hc
          simpa [List.getElem?_take, List.getElem?_drop] using this
        have h2 : (xs.map (·.1))[i]? = some (DataW.lit (.int k z) : DataW H) := by simp [hb]
        rw [hxs] at h2
        simp only [List.getElem?_map, Option.map_eq_some_iff, DataW.lit.injEq, Lit.int.injEq, true_and] at h2
        obtain ⟨z', hz', rfl⟩ := h2
        simp [h1, hz']
      · rw [List.getElem?_eq_none (by omega), List.getElem?_eq_none (by simp; omega)]
    · cases h
theorem gB : Tryd.prog.globalNamed "lighter/sha.begin" = some 0 := by kernel_rfl
theorem gK : Tryd.prog.globalNamed "lighter/sha.rounds" = some 1 := by kernel_rfl
theorem gBt : (Tryd.prog.globals[0]?).map (·.type) = some 36 := by kernel_rfl
theorem gKt : (Tryd.prog.globals[1]?).map (·.type) = some 50 := by kernel_rfl
theorem cells36 : Tryd.prog.cellsOf 36 = 8 := by kernel_rfl
theorem cells50 : Tryd.prog.cellsOf 50 = 64 := by kernel_rfl
theorem cells34 : Tryd.prog.cellsOf 34 = 1 := by kernel_rfl
theorem begin_data : (Rows.laid_lighter_sha_begin : DataW Unit) = Lib.tabData .u32 [1779033703, 3144134277, 1013904242, 2773480762, 1359893119, 2600822924, 528734635, 1541459225] := rfl
theorem rounds_data : (Rows.laid_lighter_sha_rounds : DataW Unit) = Lib.tabData .u32 (KS.map fun x : Nat => (x : Int)) := by kernel_rfl
theorem var_block {P : Program} {w : World} {n : String} {g : Nat} {cs : Array Value} (hg : P.globalNamed n = some g) (h : w.var? P n = some cs) : ∃ t fr, w.heap[g]? = some (.cells cs t fr) := by
  unfold World.var? at h
  rw [hg, Option.bind_some] at h
  split at h
  · rename_i cs' t fr h1
    obtain rfl := Option.some.inj h
    exact ⟨t, fr, h1⟩
  · cases h
theorem laid_of {W : World} (h : laidMetH Tryd.prog [("lighter/sha.begin", Rows.laid_lighter_sha_begin), ("lighter/sha.rounds", Rows.laid_lighter_sha_rounds)] W) : Laid W := by
  have h' : laidMet Tryd.prog [("lighter/sha.begin", Rows.laid_lighter_sha_begin), ("lighter/sha.rounds", Rows.laid_lighter_sha_rounds)] W := h
  obtain ⟨ps, ⟨g0, t0, cs0, f0, p0, q0, hg0, ht0, hv0, hd0, ⟨g1, t1, cs1, f1, p1, q1, hg1, ht1, hv1, hd1, _⟩, _⟩, _⟩ := h'
  obtain rfl := Option.some.inj (gB.symm.trans hg0)
  obtain rfl := Option.some.inj (gBt.symm.trans ht0)
  obtain rfl := Option.some.inj (gK.symm.trans hg1)
  obtain rfl := Option.some.inj (gKt.symm.trans ht1)
  rw [begin_data] at hd0
  rw [rounds_data] at hd1
  have e0 := cells_of_struct Tryd.underlying36 Tryd.underlying34 cells34 cells36 (by
    intro i f hi
    match i, hi with
    | 0, hi => obtain rfl := Option.some.inj hi; exact ⟨rfl, rfl⟩
    | 1, hi => obtain rfl := Option.some.inj hi; exact ⟨rfl, rfl⟩
    | 2, hi => obtain rfl := Option.some.inj hi; exact ⟨rfl, rfl⟩
    | 3, hi => obtain rfl := Option.some.inj hi; exact ⟨rfl, rfl⟩
    | 4, hi => obtain rfl := Option.some.inj hi; exact ⟨rfl, rfl⟩
    | 5, hi => obtain rfl := Option.some.inj hi; exact ⟨rfl, rfl⟩
    | 6, hi => obtain rfl := Option.some.inj hi; exact ⟨rfl, rfl⟩
    | 7, hi => obtain rfl := Option.some.inj hi; exact ⟨rfl, rfl⟩
    | n + 8, hi => cases hi) hd0
  have e1 := Lib.cells_of_tab und50 Tryd.underlying34 cells34 cells50 hd1
  obtain ⟨ta, fa, ha⟩ := var_block gB hv0
  obtain ⟨tb, fb, hb⟩ := var_block gK hv1
  refine ⟨⟨ta, fa, ?_⟩, ⟨tb, fb, ?_⟩⟩
  · rw [ha]
    have : cs0 = beginN.cells := by
      apply Array.toList_inj.1
      rw [e0]
      rfl
    rw [this]
  · rw [hb]
    have : cs1 = kCells := by
      apply Array.toList_inj.1
      rw [e1, List.map_map]
      rfl
    rw [this]
end Go.Proofs.YtegjphfkkafomaaDoor.Sha
