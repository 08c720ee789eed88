/- What came in reads as acts, as bools, as bytes. -/
import Derived.Test.YteblobookpldfaaSeS
import Derived.OpenShut
namespace Go.Proofs.Yteblobookpldfaa.Se
open Go.RowKit Go.Shelf Go.Proofs

section
variable {H : Type} {enc : TypeId × Value → H} {P : Program} {w : World} {base : Nat} {sp : Nat → Bool} {held : Bool}
theorem trod_parts {fuel : Nat} {t : TypeId} {fs : Array Field} {tos : List (TypeId × Nat)} {n : Nat} {cs : List Value} {x : DataW H × List MemPlace} (ht : P.underlying t = some (.struct fs)) (hf : fs.toList.map (fun f => (f.type, f.offset)) = tos) (hct : P.cellsOf t = n)
    (h : DataW.trod enc P w base sp held fuel t cs = some x) : cs.length = n ∧ ∃ g, ∀ (i : Nat) (u : TypeId) (o : Nat), tos[i]? = some (u, o) → ∃ y, DataW.trod enc P w base sp held g u ((cs.drop o).take (P.cellsOf u)) = some y := by
  cases fuel with
  | zero => simp [DataW.trod] at h
  | succ fuel =>
    simp only [DataW.trod, ht] at h
    split at h
    · rename_i hl
      rw [hct] at hl
      obtain ⟨xs, hm, hx⟩ := Option.map_eq_some_iff.1 h
      refine ⟨hl, fuel, fun i u o hi => ?_⟩
      rw [← hf, List.getElem?_map, Option.map_eq_some_iff] at hi
      obtain ⟨f, hfi, he⟩ := hi
      obtain ⟨b, hb, hf1⟩ := Lib.mapM_at hm i f hfi
      simp only [Prod.mk.injEq] at he
      obtain ⟨rfl, rfl⟩ := he
      exact ⟨_, hf1⟩
    · cases h
theorem cells?_get {n : Nat} {a : Addr} {cs : List Value} (h : w.cells? base a n = some cs) : ∀ j v, cs[j]? = some v → w.cell? (a.add j) = some v := by
  intro j v hj
  unfold World.cells? at h
  split at h
  · have hl := Lib.mapM_length h
    have hjn : j < n := by
      have := (List.getElem?_eq_some_iff.1 hj).1
      simp at hl
      omega
    obtain ⟨b, hb, hf⟩ := Lib.mapM_at h j j (by simp [hjn])
    rw [hj] at hb
    obtain rfl := Option.some.inj hb
    exact hf
  · cases h
/-- A list that came in, element by element. -/
theorem row_open {α : Type} (df : α) {t e : TypeId} {k fuel : Nat} {cs : List Value} {x : DataW H × List MemPlace} (ht : P.underlying t = some (.slice e)) (hk : P.cellsOf e = k) (f : α → List Value) (R : α → Prop)
    (parse : ∀ (g : Nat) (cs : List Value) (x : DataW H × List MemPlace), DataW.trod enc P w base sp held g e cs = some x → ∃ y : α, cs = f y ∧ R y) (h : DataW.trod enc P w base sp held fuel t cs = some x) :
    ∃ (v : Value) (L : List α), cs = [v] ∧ ((v = .slice none 0 0 ∧ L = []) ∨ ∃ a c, v = .slice (some a) L.length c ∧ ∀ i y, L[i]? = some y → ∀ j u, (f y)[j]? = some u → w.cell? ((a.add (i * k)).add j) = some u) ∧ ∀ y ∈ L, R y := by
  rcases DataW.trod_slice ht h with ⟨hcs, _⟩ | ⟨a, l, c, elems, rest, n, _, hcs, _, hb, hl, hm, hlen, hel, _, _⟩
  · exact ⟨_, [], hcs, .inl ⟨rfl, rfl⟩, fun y hy => (by cases hy)⟩
  · have each : ∀ i : Nat, i < l → ∃ y : α, (∀ j u, (f y)[j]? = some u → w.cell? ((a.add (i * k)).add j) = some u) ∧ R y := by
      intro i hi
      have h1 := hel i hi
      rw [List.getElem?_eq_getElem (by omega), Option.bind_eq_some_iff, hk] at h1
      obtain ⟨cs, h2, h3⟩ := h1
      obtain ⟨y, rfl, hy⟩ := parse _ _ _ h3
      exact ⟨y, fun j u hj => cells?_get h2 j u hj, hy⟩
    obtain ⟨q, hq⟩ : ∃ q : Nat → α, ∀ i, i < l → (∀ j u, (f (q i))[j]? = some u → w.cell? ((a.add (i * k)).add j) = some u) ∧ R (q i) := by
      refine ⟨fun i => if h : i < l then Classical.choose (each i h) else df, fun i hi => ?_⟩
      simp only [dif_pos hi]
      exact Classical.choose_spec (each i hi)
    refine ⟨_, (List.range l).map q, hcs, .inr ⟨a, c, by simp, ?_⟩, ?_⟩
    · intro i m hm
      rw [List.getElem?_map] at hm
      obtain ⟨j, hj, rfl⟩ := Option.map_eq_some_iff.1 hm
      obtain ⟨hj1, rfl⟩ := List.getElem?_eq_some_iff.1 hj
      simp only [List.getElem_range] at *
      exact (hq i (by simpa using hj1)).1
    · intro m hm
      obtain ⟨i, hi, rfl⟩ := List.mem_map.1 hm
      exact (hq i (List.mem_range.1 hi)).2
end
noncomputable def partsOf (t : TypeId) : List (TypeId × Nat) := match Try.prog.underlying t with
  | some (.struct fs) => fs.toList.map (fun f => (f.type, f.offset))
  | _ => []
theorem parts_of {t : TypeId} {x : TypeId × Nat} {r : List (TypeId × Nat)} (h : partsOf t = x :: r) : ∃ fs, Try.prog.underlying t = some (.struct fs) ∧ fs.toList.map (fun f => (f.type, f.offset)) = x :: r := by
  unfold partsOf at h
  split at h
  · exact ⟨_, by assumption, h⟩
  · cases h
theorem parts34 : partsOf 34 = [(5, 0), (5, 1), (3, 2), (9, 3), (32, 4)] := by kernel_rfl
theorem cellsOf34 : Try.prog.cellsOf 34 = 5 := by kernel_rfl
theorem cellsOf3 : Try.prog.cellsOf 3 = 1 := by kernel_rfl
theorem cellsOf4 : Try.prog.cellsOf 4 = 1 := by kernel_rfl
theorem cellsOf5 : Try.prog.cellsOf 5 = 1 := by kernel_rfl
theorem cellsOf9 : Try.prog.cellsOf 9 = 1 := by kernel_rfl
theorem cellsOf32 : Try.prog.cellsOf 32 = 1 := by kernel_rfl
theorem take1 {cs : List Value} {o : Nat} {v : Value} (h : (cs.drop o).take 1 = [v]) : cs[o]? = some v := by
  have := congrArg (·[0]?) h
  simpa [List.getElem?_take, List.getElem?_drop] using this
theorem add_add0 (a : Addr) (i : Nat) (n : Nat) (w : World) (u : Value) (h : w.cell? ((a.add (i * n)).add 0) = some u) : w.cell? (a.add (i * n)) = some u := by
  have e : (a.add (i * n)).add 0 = a.add (i * n) := by simp [Addr.add]
  rw [e] at h
  exact h
section
variable {H : Type} {enc : TypeId × Value → H} {w : World} {base : Nat} {sp : Nat → Bool} {held : Bool}
theorem bools_of_trod {fuel : Nat} {cs : List Value} {x : DataW H × List MemPlace} (h : DataW.trod enc Try.prog w base sp held fuel 32 cs = some x) : ∃ v ks, cs = [v] ∧ KRow w v ks := by
  obtain ⟨v, L, h1, h2, _⟩ := row_open (α := Bool) false Try.underlying32 cellsOf4 (fun b => [.bool b]) (fun _ => True) (fun g cs x hx => by
    obtain ⟨b, hb, _⟩ := DataW.trod_bool Try.underlying4 hx
    exact ⟨b, hb, trivial⟩) h
  refine ⟨v, L, h1, ?_⟩
  rcases h2 with h2 | ⟨a, c, h2, h3⟩
  · exact .inl h2
  · refine .inr ⟨a, c, h2, fun i y hy => ?_⟩
    have := add_add0 a i 1 w _ (h3 i y hy 0 _ rfl)
    rw [Nat.mul_one] at this
    exact this
theorem u8_wf {k : Int} (h : (Lit.int .u8 k).wf = true) : 0 ≤ k ∧ k < 256 := by
  simp only [Lit.wf, IntKind.min, IntKind.max, IntKind.signed, IntKind.bits, Bool.and_eq_true] at h
  simp at h
  omega
theorem u8_some {k : Int} (h : (Lit.int .u8 k).wf = true) : ∃ c : UInt8, k = (c.toNat : Int) := by
  obtain ⟨h1, h2⟩ := u8_wf h
  refine ⟨UInt8.ofNat k.toNat, ?_⟩
  rw [UInt8.toNat_ofNat_of_lt' (by simp [UInt8.size]; omega)]
  omega
theorem i64_wf {z : Int} (h : (Lit.int .i64 z).wf = true) : I64 z := by
  simp only [Lit.wf, IntKind.min, IntKind.max, IntKind.signed, IntKind.bits, Bool.and_eq_true] at h
  simp at h
  unfold I64
  omega
theorem act_of_trod {fuel : Nat} {cs : List Value} {x : DataW H × List MemPlace} (h : DataW.trod enc Try.prog w base sp held fuel 34 cs = some x) : ∃ y : ActV, cs = y.cells.toList ∧ ActOk w y := by
  obtain ⟨fs, h1, h2⟩ := parts_of parts34
  obtain ⟨hl, g, hp⟩ := trod_parts h1 h2 cellsOf34 h
  obtain ⟨y0, e0⟩ := hp 0 5 0 rfl
  obtain ⟨y1, e1⟩ := hp 1 5 1 rfl
  obtain ⟨y2, e2⟩ := hp 2 3 2 rfl
  obtain ⟨y3, e3⟩ := hp 3 9 3 rfl
  obtain ⟨y4, e4⟩ := hp 4 32 4 rfl
  rw [cellsOf5] at e0 e1
  rw [cellsOf3] at e2
  rw [cellsOf9] at e3
  rw [cellsOf32] at e4
  obtain ⟨k, k1, _, k2⟩ := DataW.trod_int Try.underlying5 e0
  obtain ⟨c, c1, _, c2⟩ := DataW.trod_int Try.underlying5 e1
  obtain ⟨n, n1, _, n2⟩ := DataW.trod_int Try.underlying3 e2
  obtain ⟨s, s1, _, s2⟩ := DataW.trod_string Try.underlying9 e3
  obtain ⟨v, L, v1, v2⟩ := bools_of_trod e4
  obtain ⟨c, rfl⟩ := u8_some c2
  have hk := u8_wf k2
  refine ⟨⟨k.toNat, c, n, s, v, L⟩, ?_, v2, by show k.toNat < 256; omega, i64_wf n2⟩
  have a0 := take1 k1
  have a1 := take1 c1
  have a2 := take1 n1
  have a3 := take1 s1
  have a4 := take1 v1
  match cs, hl with
  | [u0, u1, u2, u3, u4], _ =>
    simp at a0 a1 a2 a3 a4
    rw [a0, a1, a2, a3, a4]
    show _ = [Value.int .u8 ((k.toNat : Nat) : Int), _, _, _, _]
    rw [Int.toNat_of_nonneg hk.1]
/-- An act that came in, by value. -/
theorem act_open {b0 : Nat} {v : Value} {d : DataW H} {ps : List MemPlace} (hv : Value.okWide Try.prog w .any b0 34 v) (h : DataW.Trod enc Try.prog w base sp held 34 v d ps) : ∃ y : ActV, v = .agg y.cells ∧ ActOk w y := by
  obtain ⟨fs, h1, _⟩ := parts_of parts34
  obtain ⟨cs, rfl, _⟩ := WideShapes.okWide_struct h1 hv
  obtain ⟨fuel, hf⟩ := h
  obtain ⟨y, h2, h3⟩ := act_of_trod hf
  refine ⟨y, ?_, h3⟩
  congr 1
  apply Array.toList_inj.1
  exact h2
/-- Acts that came in. -/
theorem acts_open {o : Option Addr} {l c : Nat} {d : DataW H} {ps : List MemPlace} (h : DataW.Trod enc Try.prog w base sp held 22 (.slice o l c) d ps) : ∃ A, ActRow w (.slice o l c) A := by
  obtain ⟨fuel, hf⟩ := h
  obtain ⟨v, L, h1, h2, h3⟩ := row_open (α := ActV) ⟨0, 0, 0, ⟨#[]⟩, undef, []⟩ Try.underlying22 cellsOf34 (fun y => y.cells.toList) (ActOk w) (fun g cs x hx => act_of_trod hx) hf
  simp [Value.cells] at h1
  subst h1
  refine ⟨L, ?_⟩
  rcases h2 with h2 | ⟨a, c, h2, h4⟩
  · exact .inl h2
  · exact .inr ⟨a, c, h2, fun i y hy => ⟨add_add0 _ _ _ _ _ (h4 i y hy 0 _ rfl), h4 i y hy 1 _ rfl, h4 i y hy 2 _ rfl, h4 i y hy 3 _ rfl, h4 i y hy 4 _ rfl, h3 y (List.mem_of_getElem? hy)⟩⟩
/-- Bools that came in. -/
theorem bools_open {o : Option Addr} {l c : Nat} {d : DataW H} {ps : List MemPlace} (h : DataW.Trod enc Try.prog w base sp held 32 (.slice o l c) d ps) : ∃ ks, KRow w (.slice o l c) ks := by
  obtain ⟨fuel, hf⟩ := h
  obtain ⟨v, ks, h1, h2⟩ := bools_of_trod hf
  simp [Value.cells] at h1
  subst h1
  exact ⟨ks, h2⟩
end
/-- Bytes in memory. -/
def BRow (w : World) (v : Value) (L : List UInt8) : Prop := (v = .slice none 0 0 ∧ L = []) ∨ ∃ a c, v = .slice (some a) L.length c ∧ ∀ i x, L[i]? = some x → w.cell? (a.add i) = some (.int .u8 (x.toNat : Int))
/-- Pairs of bytes in memory. -/
def PRow (w : World) (v : Value) (L : List (UInt8 × UInt8)) : Prop := (v = .slice none 0 0 ∧ L = []) ∨ ∃ a c, v = .slice (some a) L.length c ∧ ∀ i x, L[i]? = some x → w.cell? (a.add (i * 2)) = some (.int .u8 (x.1.toNat : Int)) ∧ w.cell? ((a.add (i * 2)).add 1) = some (.int .u8 (x.2.toNat : Int))
theorem cellsOf56 : Try.prog.cellsOf 56 = 2 := by kernel_rfl
section
variable {H : Type} {enc : TypeId × Value → H} {w : World} {base : Nat} {sp : Nat → Bool} {held : Bool}
theorem bytes_open {o : Option Addr} {l c : Nat} {d : DataW H} {ps : List MemPlace} (h : DataW.Trod enc Try.prog w base sp held 49 (.slice o l c) d ps) : ∃ L, BRow w (.slice o l c) L := by
  obtain ⟨fuel, hf⟩ := h
  obtain ⟨v, L, h1, h2, _⟩ := row_open (α := UInt8) 0 Try.underlying49 cellsOf5 (fun b => [.int .u8 (b.toNat : Int)]) (fun _ => True) (fun g cs x hx => by
    obtain ⟨k, hb, _, hk⟩ := DataW.trod_int Try.underlying5 hx
    obtain ⟨b, rfl⟩ := u8_some hk
    exact ⟨b, hb, trivial⟩) hf
  simp [Value.cells] at h1
  subst h1
  refine ⟨L, ?_⟩
  rcases h2 with h2 | ⟨a, c, h2, h3⟩
  · exact .inl h2
  · refine .inr ⟨a, c, h2, fun i y hy => ?_⟩
    have := add_add0 a i 1 w _ (h3 i y hy 0 _ rfl)
    rw [Nat.mul_one] at this
    exact this
theorem pairs_open {o : Option Addr} {l c : Nat} {d : DataW H} {ps : List MemPlace} (h : DataW.Trod enc Try.prog w base sp held 52 (.slice o l c) d ps) : ∃ L, PRow w (.slice o l c) L := by
  obtain ⟨fuel, hf⟩ := h
  obtain ⟨v, L, h1, h2, _⟩ := row_open (α := UInt8 × UInt8) (0, 0) Try.underlying52 cellsOf56 (fun b => [.int .u8 (b.1.toNat : Int), .int .u8 (b.2.toNat : Int)]) (fun _ => True) (fun g cs x hx => by
    obtain ⟨xs, m, _, _, hl, _, he⟩ := DataW.trod_array Try.underlying56 hx
    rw [cellsOf56] at hl
    rw [cellsOf5] at he
    match cs, hl with
    | [u0, u1], _ =>
      have e0 := he 0 (by decide)
      have e1 := he 1 (by decide)
      have l2 : xs.length = 2 := by assumption
      rw [List.getElem?_eq_getElem (by omega)] at e0 e1
      obtain ⟨k0, hb0, _, hk0⟩ := DataW.trod_int Try.underlying5 e0
      obtain ⟨k1, hb1, _, hk1⟩ := DataW.trod_int Try.underlying5 e1
      obtain ⟨b0, rfl⟩ := u8_some hk0
      obtain ⟨b1, rfl⟩ := u8_some hk1
      simp at hb0 hb1
      exact ⟨(b0, b1), by rw [hb0, hb1], trivial⟩) hf
  simp [Value.cells] at h1
  subst h1
  refine ⟨L, ?_⟩
  rcases h2 with h2 | ⟨a, c, h2, h3⟩
  · exact .inl h2
  · exact .inr ⟨a, c, h2, fun i y hy => ⟨add_add0 a i 2 w _ (h3 i y hy 0 _ rfl), h3 i y hy 1 _ rfl⟩⟩
end
end Go.Proofs.Yteblobookpldfaa.Se
