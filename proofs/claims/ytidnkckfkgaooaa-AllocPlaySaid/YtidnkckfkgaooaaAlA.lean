/- Al0, QTail, Al1, Al2, Al3, Al4, put together. -/
import Derived.Test.YtidnkckfkgaooaaBitsE
import Derived.ArgAppend
import Derived.Below
import Derived.BigQuiet
import Derived.Deep.AppendLies
import Derived.Deep.CutBlock
import Derived.Deep.DeepCutAuto
import Derived.Deep.Draws
import Derived.Deep.LoopGhost
import Derived.Deep.OwnRows
import Derived.Deep.Quiet
import Derived.Deep.QuietTactic
import Derived.Deep.RegionHeld3
import Derived.KernelRfl
import Derived.Laws.BitsLemmas
import Derived.Laws.BytesArg
import Derived.Laws.IdiomCopy
import Derived.Laws.MakeOwn
import Derived.Laws.OwnMore
import Derived.Laws.Rows
import Derived.Laws.Slices
import Derived.Lib.AppendStr
import Derived.Lib.ConvBytes
import Derived.Lib.Hide
import Derived.Lib.QuietBelow
import Derived.Maps.AppendAt
import Derived.OrdersHeld
import Derived.Outline
import Derived.OwnWalk
import Derived.RangeFuncRecord
import Derived.RowKit
import Derived.RowKit3
import Derived.StillTail
import Derived.Tactics
import Derived.WalkKit
import Derived.WideLaws
import Derived.WalkSpells
import Derived.Deep.Fields
/- Memory: small laws (turned from another seat's texts by wip/tools/port.py). -/
namespace Go.Proofs.Ytidnkckfkgaooaa.Al
open Go.RowKit Go.Proofs Go.Proofs.YtidnkckfkgaooaaW.PrintWords Go.Proofs.YtidnkckfkgaooaaW.PrintLast Go.Proofs.YtidnkckfkgaooaaW.PrintMore
theorem block_cell {w : World} {g : Nat} {cs : Array Value} {t : TypeId} {fr : Nat × Nat} (h : w.heap[g]? = some (.cells cs t fr)) (j : Nat) : w.cell? ⟨g, j, none⟩ = cs[j]? := by
  simp [World.cell?, h]
theorem block_frozen {w : World} {g : Nat} {cs : Array Value} {t : TypeId} (h : w.heap[g]? = some (.cells cs t (0, 0))) (j : Nat) : w.frozen? ⟨g, j, none⟩ = false := by
  simp only [World.frozen?, h]
  simp
theorem block_set {w : World} {g : Nat} {cs : Array Value} {t : TypeId} {fr : Nat × Nat} (h : w.heap[g]? = some (.cells cs t fr)) (j : Nat) (v : Value) : (w.setCell ⟨g, j, none⟩ v).heap[g]? = some (.cells (cs.setIfInBounds j v) t fr) := by
  simp only [World.setCell, Array.getElem?_modify]
  rw [if_pos trivial, h]
  rfl
theorem alloc_new (w : World) (o : Obj) (g : Nat) (h : g = w.heap.size) : (w.alloc o).heap[g]? = some o := by
  rw [h]
  exact World.alloc_heap_new w o
theorem lt_of_block {w : World} {g : Nat} {o : Obj} (h : w.heap[g]? = some o) : g < w.heap.size := by
  rcases Nat.lt_or_ge g w.heap.size with h1 | h1
  · exact h1
  · rw [Array.getElem?_eq_none h1] at h
    cases h
theorem add_zero (g j : Nat) : (⟨g, 0, none⟩ : Addr).add j = ⟨g, j, none⟩ := by
  unfold Addr.add
  simp
  intro h
  exact h.symm
theorem setCells_below {g : Nat} : ∀ (vs : List Value) (o : Nat) (w : World) (B : Nat) (a : World), B ≤ g → Below B a w → Below B a (w.setCells g o vs)
  | [], _, _, _, _, _, h => h
  | _ :: r, o, _, B, a, hB, h => setCells_below r (o + 1) _ B a hB (h.setCell hB _)
def laidOver (cs : Array Value) : Nat → List Value → Array Value
  | _, [] => cs
  | o, v :: r => laidOver (cs.setIfInBounds o v) (o + 1) r
theorem laidOver_size : ∀ (vs : List Value) (o : Nat) (cs : Array Value), (laidOver cs o vs).size = cs.size
  | [], _, _ => rfl
  | v :: r, o, cs => by
    unfold laidOver
    rw [laidOver_size r, Array.size_setIfInBounds]
theorem laidOver_old : ∀ (vs : List Value) (o : Nat) (cs : Array Value) (i : Nat), i < o → (laidOver cs o vs)[i]? = cs[i]?
  | [], _, _, _, _ => rfl
  | v :: r, o, cs, i, h => by
    unfold laidOver
    rw [laidOver_old r _ _ i (by omega), Array.getElem?_setIfInBounds_ne (by omega)]
theorem laidOver_new : ∀ (vs : List Value) (o : Nat) (cs : Array Value) (i : Nat), i < vs.length → o + i < cs.size → (laidOver cs o vs)[o + i]? = vs[i]?
  | [], _, _, _, h, _ => by cases h
  | v :: r, o, cs, 0, _, h => by
    unfold laidOver
    show (laidOver (cs.setIfInBounds o v) (o + 1) r)[o]? = some v
    rw [laidOver_old r _ _ o (by omega), Array.getElem?_setIfInBounds_self_of_lt (by omega)]
  | v :: r, o, cs, i + 1, h1, h => by
    unfold laidOver
    rw [show o + (i + 1) = o + 1 + i from by omega, laidOver_new r (o + 1) _ i (by simpa using h1) (by rw [Array.size_setIfInBounds]; omega)]
    rfl
theorem setCells_row {g : Nat} {t : TypeId} {fr : Nat × Nat} : ∀ (vs : List Value) (o : Nat) (w : World) (cs : Array Value), w.heap[g]? = some (.cells cs t fr) → (w.setCells g o vs).heap[g]? = some (.cells (laidOver cs o vs) t fr)
  | [], _, _, _, h => h
  | v :: r, o, _, _, h => setCells_row r (o + 1) _ _ (block_set h o v)
/-- A whole row, stored. -/
theorem setCells_whole {g : Nat} {t : TypeId} {fr : Nat × Nat} (vs : List Value) (w : World) (cs : Array Value) (h : w.heap[g]? = some (.cells cs t fr)) (hs : cs.size = vs.length) : (w.setCells g 0 vs).heap[g]? = some (.cells vs.toArray t fr) := by
  rw [setCells_row vs 0 w cs h]
  congr 2
  apply Array.ext_getElem?
  intro i
  by_cases hi : i < vs.length
  · have := laidOver_new vs 0 cs i hi (by omega)
    rw [Nat.zero_add] at this
    rw [this]
    simp
  · rw [Array.getElem?_eq_none (by rw [laidOver_size]; omega), Array.getElem?_eq_none (by simp; omega)]
/-- A whole array loaded, in a region that draws, guarded or not. -/
theorem wpQuiet_load_rowG {P : Program} {ops : Array Oper} {C : World → Prop} {Q : Act → Prop} {a : Act} {o : Oper} {rest : List Oper} (hgd : Region.wanted o (yielded ops a.tmps) = true) (ty : TypeId) (x : Operand) (ho : o.op = .load ty x)
    (g : Nat) (hx : a.eval x = .pointer (some ⟨g, 0, none⟩)) (t : TypeId) (cs : Array Value) (fr : Nat × Nat) (d : TypeDesc) (hC : ∀ w, C w → w.heap[g]? = some (.cells cs t fr))
    (hu : P.underlying ty = some d) (hd : (match d with | .struct _ | .array _ _ => true | _ => false) = true) (hi : (P.info? ty).map (·.size) = some cs.size)
    {v : Value} (hv : v = .agg cs) (h : wpQuiet P ops C Q rest (a.put o.dst v)) : wpQuiet P ops C Q (o :: rest) a := by
  subst hv
  unfold wpQuiet
  rw [if_pos hgd]
  refine ⟨.agg cs, fun w hw => ?_, h⟩
  unfold Oper.quietAt execOp
  simp only [ho, hx, Instr.loadAt, Instr.sureAddr, Sem.run_bind, Sem.run_pure, Result.andThen_ok, run_loadVar_row w g t ty cs fr d (hC w hw) hu hd hi]
  exact ⟨rfl, rfl⟩
theorem wpQuiet_skip {P : Program} {ops : Array Oper} {C : World → Prop} {Q : Act → Prop} {a : Act} {o : Oper} {rest : List Oper} (hgd : Region.wanted o (yielded ops a.tmps) = false) (h : wpQuiet P ops C Q rest (a.put o.dst undef)) : wpQuiet P ops C Q (o :: rest) a := by
  unfold wpQuiet
  rw [if_neg (by rw [hgd]; decide)]
  exact h
end Go.Proofs.Ytidnkckfkgaooaa.Al
/- A region that draws its order: all operations but the last few are quiet in a class of worlds (Derived/Deep/Quiet.lean), the last few come in one forced order behind all others (Derived/StillTail.lean): one walk in the order of the text. -/
namespace Go.Proofs.Ytidnkckfkgaooaa.QT
open Go Go.RowKit

section
variable {P : Program} {ops : Array Oper} {md : Region.Mode} {C : World → Prop}

/-- Whatever order is picked from here on, as long as the head's operations come up; 'L' at the end. -/
def AnyT (P : Program) (md : Region.Mode) (ops : Array Oper) (C : World → Prop) (n : Nat) (L : Array Bool → Act → Prop) : Nat → Array Bool → Act → Prop
  | 0, l, a => L l a
  | f + 1, l, a => Region.ready md ops l ≠ [] ∧ ∀ i ∈ Region.ready md ops l, i < n ∧ qOp P ops C i (AnyT P md ops C n L f (l.setIfInBounds i true)) a

theorem any_of {n g : Nat} {L : Array Bool → Act → Prop} {Q' : Exit → Act → World → Prop} (hL : ∀ l a w, C w → L l a → wpAny P md ops Q' g l a w) :
    ∀ (f : Nat) (l : Array Bool) (a : Act) (w : World), C w → AnyT P md ops C n L f l a → wpAny P md ops Q' (f + g) l a w := by
  intro f
  induction f with
  | zero => intro l a w hw h; rw [Nat.zero_add]; exact hL _ _ _ hw h
  | succ f ih =>
    intro l a w hw h
    rw [Nat.add_right_comm]
    exact ⟨fun h0 => absurd h0 h.1, fun i hi => wpOp_of_qOp hw (fun a' w' hw' h' => ih _ a' w' hw' h') (h.2 i hi).2⟩

theorem first {n i : Nat} {oi : Oper} {v : Value} {L : Array Bool → Act → Prop} (hi : ops[i]? = some oi) (hsel : ∀ (j : Nat) (o : Oper) cs b, ops[j]? = some o → o.op ≠ .select cs b)
    (hs : Region.sinkB md ops n = true) (hc : Region.chainB md ops n = true) (hn : n < ops.size) (hin : i < n) (hdone : ∀ l a, L l a → ∀ j ∈ Region.ready md ops l, n ≤ j) :
    ∀ (f : Nat) (l : Array Bool) (a : Act), HeadInv md ops n l →
      (∀ j oj, ops[j]? = some oj → j ≠ i → l.getD j true = false → (∀ e ∈ oj.after, Region.binds md e = true → e.on ≠ i) → oi.apart ops oj = true) →
      i ∈ Region.ready md ops l → YieldsIn P ops C oi v a →
      AnyT P md ops C n L f (l.setIfInBounds i true) (a.put oi.dst v) → AnyT P md ops C n L (f + 1) l a := by
  intro f
  induction f with
  | zero =>
    intro l a inv _ hr hy H
    refine ⟨List.ne_nil_of_mem hr, fun j hj => ?_⟩
    have hjn : j < n := by
      by_cases h : j < n
      · exact h
      · exact absurd hj (tail_waits hs hc hn inv _ i rfl hin (mem_ready.1 hr).1 j (by omega))
    refine ⟨hjn, ?_⟩
    by_cases hji : j = i
    · subst hji; exact hy.qOp hi H
    · have := hdone _ _ H j (ready_mono hj hji)
      omega
  | succ f ih =>
    intro l a inv hfree hr hy H
    have hun := (mem_ready.1 hr).1
    refine ⟨List.ne_nil_of_mem hr, fun j hj => ?_⟩
    have hjn : j < n := by
      by_cases h : j < n
      · exact h
      · exact absurd hj (tail_waits hs hc hn inv _ i rfl hin hun j (by omega))
    refine ⟨hjn, ?_⟩
    by_cases hji : j = i
    · subst hji; exact hy.qOp hi H
    · obtain ⟨hjun, oj, hoj, hall⟩ := mem_ready.1 hj
      have hnot : ∀ e ∈ oj.after, Region.binds md e = true → e.on ≠ i := by
        intro e he hb heq
        have h1 := hall e he hb
        rw [heq, getD_both hun] at h1
        cases h1
      refine qOp_mono (fun a' h3 => ih (l.setIfInBounds j true) a' (inv.set hj hjn) ?_ (ready_mono hr (Ne.symm hji)) h3.1 ?_)
        (qOp_put hoj (hfree j oj hoj hji hjun hnot) (fun cs b => hsel i oi cs b hi) (fun cs b => hsel j oj cs b hoj) hy ((H.2 j (ready_mono hj hji)).2))
      · intro k ok hk hki hkun hno
        refine hfree k ok hk hki ?_ hno
        by_cases hjk : j = k
        · subst hjk; exact hjun
        · rw [getD_set_ne true hjk] at hkun; exact hkun
      · rw [Array.setIfInBounds_comm _ _ hji]
        exact h3.2

theorem lex {n g : Nat} {Lq : Act → Prop} (hsel : Region.noSelect ops = true) (hs : Region.sinkB md ops n = true) (hc : Region.chainB md ops n = true) (hn : n < ops.size) :
    ∀ (l : List Oper) (k : Nat) (b : Array Bool) (a : Act), (∀ j, j < l.length → l[j]? = ops[k + j]?) → k + l.length = n → HeadInv md ops n b →
    Region.lexHead md ops g l.length k b = true → wpQuiet P ops C Lq l a →
    AnyT P md ops C n (fun b' a' => Region.seqB md ops g n b' = true ∧ Lq a') l.length b a := by
  intro l
  induction l with
  | nil =>
    intro k b a _ hk _ hB h
    obtain rfl : k = n := by simpa using hk
    exact ⟨by simpa [Region.lexHead] using hB, h⟩
  | cons o l ih =>
    intro k b a hl hk inv hB h
    have h0 : ops[k]? = some o := by simpa using (hl 0 (by simp)).symm
    simp only [List.length_cons, Region.lexHead, Bool.and_eq_true] at hB
    obtain ⟨⟨hr, hf⟩, hB'⟩ := hB
    have hkn : k < n := by simp only [List.length_cons] at hk; omega
    have hr' : k ∈ Region.ready md ops b := by simpa using hr
    have hq : qOp P ops C k (wpQuiet P ops C Lq l) a := by unfold qOp; simp only [h0]; exact h
    obtain ⟨v, hy, hK⟩ := yieldsIn_of_qOp h0 hq
    refine first h0 (Region.noSelect_spec hsel) hs hc hn hkn (fun b' a' hL => seqB_ready hL.1) l.length b a inv (Region.free_spec h0 hf) hr' hy
      (ih (k + 1) _ _ (fun j hj => ?_) (by simp only [List.length_cons] at hk; omega) (inv.set hr' hkn) hB' hK)
    have := hl (j + 1) (by simp; omega)
    simpa [Nat.add_assoc, Nat.add_comm 1 j] using this

/-- ONE WALK: the head quietly, in the order of the text; the tail, operation for operation, in every world of the class. -/
theorem wp_region_qtail {id : Nat} {Q : Exit → Act → World → Prop} {a : Act} {w : World} {l : List Oper} (n : Nat) (hm : P.follows .mixedOrders = true) (hB : Region.lexTailB .any l.toArray n = true) (hC : C w.drew)
    (h : wpQuiet P l.toArray C (fun a' => ∀ w', C w' → wpList P l.toArray Q (l.drop n) a' w') (l.take n) a) : (Code.region id l.toArray true).wp P Q a w := by
  simp only [Region.lexTailB, Bool.and_eq_true, decide_eq_true_eq] at hB
  obtain ⟨⟨⟨⟨hsel, hn⟩, hs⟩, hc⟩, hlex⟩ := hB
  have hn' : n < l.length := by simpa using hn
  have htl : (l.take n).length = n := by simp; omega
  have hdl : (l.drop n).length = l.toArray.size - n := by simp
  have inv0 : HeadInv .any l.toArray n (Array.replicate l.toArray.size false) :=
    ⟨by simp, fun j oj _ hl => (by rw [getD_replicate_false] at hl; cases hl), fun t _ ht => getD_in (by simpa using ht) (getD_replicate_false _ _)⟩
  have H := lex (md := .any) (g := l.toArray.size - n) hsel hs hc hn (l.take n) 0 _ a (fun j hj => by
    have hj' : j < n := by rw [htl] at hj; exact hj
    simp [hj']) (by simpa using htl) inv0 (by rw [htl]; exact hlex) h
  refine wp_region_any hm ?_
  have := any_of (Q' := Q) (g := l.toArray.size - n) (fun listed a' w' hw' hL => by
    have := wpAny_of_seq (md := .any) (Q' := Q) (l.drop n) n listed a' w' (fun j => by simp [List.getElem?_drop]) (by rw [hdl]; exact hL.1) (hL.2 w' hw')
    rw [hdl] at this
    exact this) _ _ _ w.drew hC H
  rw [htl, show n + (l.toArray.size - n) = l.toArray.size by omega] at this
  exact this

end

/-- The same, the class: behind some draws. -/
theorem wp_region_draws_tail {P : Program} {id : Nat} {Q : Exit → Act → World → Prop} {a : Act} {w : World} {l : List Oper} (n : Nat) (hm : P.follows .mixedOrders = true) (hB : Region.lexTailB .any l.toArray n = true)
    (h : wpQuiet P l.toArray (fun w' => ∃ m, w' = w.drewN m) (fun a' => ∀ w', (∃ m, w' = w.drewN m) → wpList P l.toArray Q (l.drop n) a' w') (l.take n) a) : (Code.region id l.toArray true).wp P Q a w :=
  wp_region_qtail (C := fun w' => ∃ m, w' = w.drewN m) n hm hB ⟨1, rfl⟩ h

/-- The same, the class: of what was there nothing has turned. -/
theorem wp_region_below_tail {P : Program} {id : Nat} {Q : Exit → Act → World → Prop} {a : Act} {w : World} {l : List Oper} (n : Nat) (hm : P.follows .mixedOrders = true) (hB : Region.lexTailB .any l.toArray n = true)
    (h : wpQuiet P l.toArray (fun w' => ∃ p : Regrown, w' = Go.Sort.grow (redrawn w p.d) p.os) (fun a' => ∀ w', (∃ p : Regrown, w' = Go.Sort.grow (redrawn w p.d) p.os) → wpList P l.toArray Q (l.drop n) a' w') (l.take n) a) : (Code.region id l.toArray true).wp P Q a w :=
  wp_region_qtail (C := fun w' => ∃ p : Regrown, w' = Go.Sort.grow (redrawn w p.d) p.os) n hm hB ⟨⟨w.drawn + 1, #[]⟩, by rw [Go.Sort.grow_empty]; rfl⟩ h

end Go.Proofs.Ytidnkckfkgaooaa.QT
/- Maps of blocks: the small functions' walks. -/
namespace Go.Proofs.Ytidnkckfkgaooaa.Al
open Go.RowKit Go.Proofs Go.Proofs.Ytidnkckfkgaooaa.Q Go.Proofs.Ytidnkckfkgaooaa.Ext Go.Proofs.Ytidnkckfkgaooaa.Pure Go.Proofs.YtidnkckfkgaooaaW.PrintWords Go.Proofs.YtidnkckfkgaooaaW.PrintLast Go.Proofs.YtidnkckfkgaooaaW.PrintMore

/-! ### Bits, as the walks ask them -/
theorem has_at (s : ByteArray) (i : Int) (w : World) (hs : s.size ≤ 140737488351232) (hi : I64 i) : Calls Try.prog 17 #[.string s, .int .i64 i] w fun e w' => e = .returned (.bool (hasI s i)) ∧ Drawn0 w w' :=
  bits_Has.calls s i _ w (has_ok s i hs hi)
theorem with_at (s : ByteArray) (i : Int) (on : Bool) (w : World) (hi : I64 i) : Calls Try.prog 19 #[.string s, .int .i64 i, .bool on] w fun e w' => e = .returned (.string (withI s i on)) ∧ Below w.heap.size w w' :=
  bits_With.calls s i on _ w (with_ok s i on hi)
theorem run_at (s : ByteArray) (i n : Int) (w : World) (hs : s.size ≤ 140737488351232) (hi : I64 i) : Calls Try.prog 21 #[.string s, .int .i64 i, .int .i64 n] w fun e w' => e = .returned (.int .i64 (runS s i n)) ∧ Below w.heap.size w w' :=
  bits_Run.calls s i n _ w (run_ok s i n hs hi)
theorem count_at (s : ByteArray) (w : World) (hs : s.size ≤ 1048576) : Calls Try.prog 23 #[.string s] w fun e w' => e = .returned (.int .i64 (countN s : Int)) ∧ Drawn0 w w' := by
  obtain ⟨K, hK⟩ := count_ok s hs
  exact bits_Count.calls K s _ w (hK K (Nat.le_refl _))

/-! ### A map in memory -/
/-- A map of so many blocks, with these bits. -/
def MapAt (w : World) (p : Nat) (n : Nat) (s : ByteArray) : Prop := w.heap[p]? = some (.cells #[.int .i64 (n : Int), .string s] 60 (0, 0))
theorem MapAt.keepB {w w' : World} {p n : Nat} {s : ByteArray} (h : MapAt w p n s) (hB : Below w.heap.size w w') : MapAt w' p n s := by
  unfold MapAt at *
  rw [hB.block _ (lt_of_block h)]
  exact h
theorem MapAt.c0 {w : World} {p n : Nat} {s : ByteArray} (h : MapAt w p n s) : w.cell? ⟨p, 0, none⟩ = some (.int .i64 (n : Int)) := by rw [block_cell h]; rfl
theorem MapAt.c1 {w : World} {p n : Nat} {s : ByteArray} (h : MapAt w p n s) : w.cell? ⟨p, 1, none⟩ = some (.string s) := by rw [block_cell h]; rfl
theorem MapAt.set {w : World} {p n : Nat} {s : ByteArray} (h : MapAt w p n s) (t : ByteArray) : MapAt (w.setCell ⟨p, 1, none⟩ (.string t)) p n t := by
  unfold MapAt
  rw [block_set h]
  rfl
/-- A value that is no map: none, or one of no blocks. -/
def NoMap (w : World) (v : Value) : Prop := v = .pointer none ∨ ∃ p, v = .pointer (some ⟨p, 0, none⟩) ∧ MapAt w p 0 ⟨#[]⟩
theorem NoMap.keepB {w w' : World} {v : Value} (h : NoMap w v) (hB : Below w.heap.size w w') : NoMap w' v := by
  rcases h with h | ⟨p, h1, h2⟩
  · exact .inl h
  · exact .inr ⟨p, h1, h2.keepB hB⟩
set_option maxHeartbeats 1000000 in
theorem size_map (w : World) (p n : Nat) (s : ByteArray) (h : MapAt w p n s) : Calls Try.prog 37 #[.pointer (some ⟨p, 0, none⟩)] w fun e w' => e = .returned (.int .i64 (n : Int)) ∧ w = w' := by
  have c0 := h.c0
  go_enter Try.func37, Try.ntmps37
  go_wp2
  go_ret
  exact ⟨rfl, rfl⟩
set_option maxHeartbeats 1000000 in
theorem size_nil (w : World) : Calls Try.prog 37 #[.pointer none] w fun e w' => e = .returned (.int .i64 0) ∧ w = w' := by
  go_enter Try.func37, Try.ntmps37
  go_wp2
  go_ret
  exact ⟨rfl, rfl⟩
set_option maxHeartbeats 1000000 in
theorem bytes_map (w : World) (p n : Nat) (s : ByteArray) (h : MapAt w p n s) : Calls Try.prog 38 #[.pointer (some ⟨p, 0, none⟩)] w fun e w' => e = .returned (.string s) ∧ w = w' := by
  have c1 := h.c1
  go_enter Try.func38, Try.ntmps38
  go_wp2
  go_ret
  exact ⟨rfl, rfl⟩
set_option maxHeartbeats 1000000 in
theorem bytes_nil (w : World) : Calls Try.prog 38 #[.pointer none] w fun e w' => e = .returned (.string ⟨#[]⟩) ∧ w = w' := by
  go_enter Try.func38, Try.ntmps38
  go_wp2
  go_ret
  exact ⟨rfl, rfl⟩
set_option maxHeartbeats 1000000 in
theorem used_map (w : World) (p n : Nat) (s : ByteArray) (h : MapAt w p n s) (hs : s.size ≤ 1048576) : Calls Try.prog 27 #[.pointer (some ⟨p, 0, none⟩)] w fun e w' => e = .returned (.int .i64 (countN s : Int)) ∧ Drawn0 w w' := by
  have c1 := h.c1
  have HC := Lib.hid (fun w => count_at s w hs)
  go_enter Try.func27, Try.ntmps27
  go_wp2_with (go_at_call 23; refine (HC.out _).mono ?_; rintro e w' ⟨rfl, hD⟩)
  go_ret
  exact ⟨rfl, hD⟩
set_option maxHeartbeats 1000000 in
theorem used_nil (w : World) : Calls Try.prog 27 #[.pointer none] w fun e w' => e = .returned (.int .i64 0) ∧ Drawn0 w w' := by
  go_enter Try.func27, Try.ntmps27
  go_wp2
  go_ret
  exact ⟨rfl, ⟨0, rfl⟩⟩
end Go.Proofs.Ytidnkckfkgaooaa.Al
/- Maps of blocks: copied, made, made of bits: the walks. -/
namespace Go.Proofs.Ytidnkckfkgaooaa.Al
open Go.RowKit Go.Proofs Go.Proofs.Ytidnkckfkgaooaa.Q Go.Proofs.Ytidnkckfkgaooaa.Ext Go.Proofs.Ytidnkckfkgaooaa.Pure Go.Proofs.YtidnkckfkgaooaaW.PrintWords Go.Proofs.YtidnkckfkgaooaaW.PrintLast Go.Proofs.YtidnkckfkgaooaaW.PrintMore

theorem size60 : (Try.prog.info? 60).map (·.size) = some 2 := by kernel_rfl
theorem und60 : (match Try.prog.underlying 60 with | some (.struct _) => true | _ => false) = true := by kernel_rfl
theorem und60s : ∃ fs, Try.prog.underlying 60 = some (.struct fs) := by
  have h := und60
  split at h
  · exact ⟨_, by assumption⟩
  · cases h
set_option maxHeartbeats 1000000 in
theorem copy_none (w : World) (v : Value) (h : NoMap w v) : Calls Try.prog 29 #[v] w fun e w' => e = .returned (.pointer none) ∧ w = w' := by
  rcases h with rfl | ⟨p, rfl, h⟩
  · go_enter Try.func29, Try.ntmps29
    go_wp2_with (go_at_call 37; refine (size_nil _).mono ?_; rintro e w' ⟨rfl, rfl⟩)
    go_ret
    exact ⟨rfl, rfl⟩
  · go_enter Try.func29, Try.ntmps29
    go_wp2_with (go_at_call 37; refine (size_map _ _ _ _ h).mono ?_; rintro e w' ⟨rfl, rfl⟩)
    go_ret
    exact ⟨rfl, rfl⟩
set_option maxHeartbeats 1000000 in
theorem copy_map (w : World) (p n : Nat) (s : ByteArray) (h : MapAt w p n s) (hn : 1 ≤ n) :
    Calls Try.prog 29 #[.pointer (some ⟨p, 0, none⟩)] w fun e w' => e = .returned (.pointer (some ⟨w.heap.size, 0, none⟩)) ∧ MapAt w' w.heap.size n s ∧ Below w.heap.size w w' := by
  obtain ⟨fs, hfs⟩ := und60s
  have h1 : ¬ (n : Int) = 0 := by omega
  have h2 : ((n : Int) == 0) = false := beq_eq_false_iff_ne.mpr h1
  have HB := Lib.hid (show ∀ o : Obj, Below w.heap.size w (w.alloc o) from fun o => (Below.refl _ _).alloc (Nat.le_refl _) o)
  go_enter Try.func29, Try.ntmps29
  go_wp2_with (first
    | (go_at_call 37; refine (size_map _ _ _ _ h).mono ?_; rintro e w' ⟨rfl, rfl⟩)
    | (refine wpList_load_row rfl 60 (.tmp 8) rfl p rfl 60 #[.int .i64 (n : Int), .string s] (0, 0) (.struct fs) h hfs rfl size60 ?_))
  go_ret
  exact ⟨rfl, alloc_new _ _ _ rfl, HB.out _⟩

/-! ### Made -/
set_option maxHeartbeats 1000000 in
theorem bytesOf_calls (n : Nat) (w : World) (hn : n ≤ 1000000) : Calls Try.prog 45 #[.int .i64 (n : Int)] w fun e w' => e = .returned (.int .i64 (((n + 7) / 8 : Nat) : Int)) ∧ w = w' := by
  have h : Hid (((n + 7) / 8 : Nat) = ((n : Int) + 7) / 8) := Lib.hid (by omega)
  go_enter Try.func45, Try.ntmps45
  go_wp2
  go_ret
  exact ⟨by rw [h.out]; rfl, rfl⟩
def zeroS (n : Nat) : ByteArray := ⟨(List.replicate n (0 : UInt8)).toArray⟩
theorem zeroS_size (n : Nat) : (zeroS n).size = n := by
  show (List.replicate n (0 : UInt8)).toArray.size = n
  simp
/-- What New and Of answer. -/
def NEnd (w : World) (n : Nat) (s : ByteArray) (e : Ending) (w' : World) : Prop := ∃ g, e = .returned (.tuple #[.pointer (some ⟨g, 0, none⟩), .int .i64 0]) ∧ MapAt w' g n s ∧ w.heap.size ≤ g ∧ Below w.heap.size w w'
def NNone (c : Int) (w : World) (e : Ending) (w' : World) : Prop := e = .returned (.tuple #[.pointer none, .int .i64 c]) ∧ Below w.heap.size w w'
set_option maxHeartbeats 1000000 in
theorem new_none (n : Int) (w : World) (h : n < 1 ∨ 4096 < n) : Calls Try.prog 25 #[.int .i64 n] w (NNone 2 w) := by
  rcases h with h | h
  · go_enter Try.func25, Try.ntmps25
    go_wp2
    go_ret2
    exact ⟨rfl, Below.refl _ _⟩
  · have h1 : ¬ n < 1 := by omega
    go_enter Try.func25, Try.ntmps25
    go_wp2
    go_ret2
    exact ⟨rfl, Below.refl _ _⟩
theorem made_get (m j : Nat) (h : j < m) : (madeCells #[.int .u8 0] m)[j]? = some (.int .u8 0) := by
  rw [← Array.getElem?_toList, toList_madeCells_one, List.getElem?_replicate, if_pos h]
set_option maxHeartbeats 1000000 in
theorem new_some (n : Nat) (w : World) (h1 : 1 ≤ n) (h2 : n ≤ 4096) : Calls Try.prog 25 #[.int .i64 (n : Int)] w (NEnd w n (zeroS ((n + 7) / 8))) := by
  obtain ⟨i0, hi, hz0, hz1, hz2⟩ := info_parts Ext.info5
  obtain ⟨m, hm⟩ : ∃ m, m = (n + 7) / 8 := ⟨_, rfl⟩
  have hmk : ∀ W : World, (Instr.makeSlice 64 (.int .i64 (m : Int)) (.int .i64 (m : Int))).run Try.prog W = .ok (.slice (some ⟨W.heap.size, 0, none⟩) m m) (W.alloc (.cells (madeCells #[.int .u8 0] m) 5)) := fun W => by
    have h := run_make (P := Try.prog) W 64 5 i0 (.int .u8 0) Try.underlying64 hi hz0 .i64 .i64 m m (by omega) (by omega) (by rw [hz2]; omega) (by omega)
    rw [hz1, Nat.mul_one] at h
    simpa [Value.cells] using h
  have hcv : ∀ W : World, (convert 64 9 (.slice (some ⟨W.heap.size, 0, none⟩) m m)).run Try.prog (W.alloc (.cells (madeCells #[.int .u8 0] m) 5)) = .ok (.string (zeroS m)) (W.alloc (.cells (madeCells #[.int .u8 0] m) 5)) := fun W => by
    have := run_convert_bytes_back (P := Try.prog) (W.alloc (.cells (madeCells #[.int .u8 0] m) 5)) 64 9 5 ⟨W.heap.size, 0, none⟩ m (List.replicate m (0 : UInt8)) Try.underlying64 Try.underlying5 Try.underlying9 (fun j hj => by
      have hj' : j < m := by simpa using hj
      rw [add_zero, block_cell (alloc_new W _ _ rfl), made_get m j hj']
      simp)
    rw [List.length_replicate] at this
    exact this
  have HC := Lib.hid (fun w => bytesOf_calls n w (by omega))
  rw [← hm] at HC ⊢
  clear hm hi hz0 hz1 hz2
  generalize zeroS m = z at *
  go_enter Try.func25, Try.ntmps25
  go_wp2_with (go_at_call 45; refine (HC.out _).mono ?_; rintro e w' ⟨rfl, rfl⟩)
  go_ret2
  exact ⟨w.heap.size + 1, rfl, alloc_new _ _ _ (by simp), by omega, ((Below.refl _ _).alloc (Nat.le_refl _) _).alloc (by simp) _⟩

/-! ### Made of bits -/
def OfOk (s : ByteArray) (n : Nat) : Prop := s.size = (n + 7) / 8 ∧ ∀ i, n ≤ i → i < 8 * s.size → hasB s i = false
set_option maxHeartbeats 1000000 in
theorem of_arg (s : ByteArray) (n : Int) (w : World) (h : n < 1 ∨ 4096 < n) : Calls Try.prog 40 #[.string s, .int .i64 n] w (NNone 2 w) := by
  rcases h with h | h
  · go_enter Try.func40, Try.ntmps40
    go_wp2
    go_ret2
    exact ⟨rfl, Below.refl _ _⟩
  · have h1 : ¬ n < 1 := by omega
    go_enter Try.func40, Try.ntmps40
    go_wp2
    go_ret2
    exact ⟨rfl, Below.refl _ _⟩
def OEnd (s : ByteArray) (n : Nat) (w : World) (e : Ending) (w' : World) : Prop := (OfOk s n ∧ NEnd w n s e w') ∨ (¬ OfOk s n ∧ NNone 10 w e w')
set_option maxHeartbeats 1000000 in
theorem of_size (s : ByteArray) (n : Nat) (w : World) (h1 : 1 ≤ n) (h2 : n ≤ 4096) (h : s.size ≠ (n + 7) / 8) : Calls Try.prog 40 #[.string s, .int .i64 (n : Int)] w (OEnd s n w) := by
  have HC := Lib.hid (fun w => bytesOf_calls n w (by omega))
  have HO := Lib.hid (show ¬ OfOk s n from fun k => h k.1)
  have q1 : ¬ (s.size : Int) = (((n + 7) / 8 : Nat) : Int) := by omega
  generalize (n + 7) / 8 = m at *
  have q2 : ((s.size : Int) == (m : Int)) = false := beq_eq_false_iff_ne.mpr q1
  have q3 : ((s.size : Int) != (m : Int)) = true := bne_iff_ne.mpr q1
  clear h
  go_enter Try.func40, Try.ntmps40
  go_wp2_with (go_at_call 45; refine (HC.out _).mono ?_; rintro e w' ⟨rfl, rfl⟩)
  go_ret2
  exact .inr ⟨HO.out, rfl, Below.refl _ _⟩
set_option maxHeartbeats 2000000 in
theorem of_bits (s : ByteArray) (n : Nat) (w : World) (h1 : 1 ≤ n) (h2 : n ≤ 4096) (h : s.size = (n + 7) / 8) : Calls Try.prog 40 #[.string s, .int .i64 (n : Int)] w (OEnd s n w) := by
  have HC := Lib.hid (fun w => bytesOf_calls n w (by omega))
  have hsz : s.size ≤ 1000 := by omega
  have hsn : n ≤ 8 * s.size := by omega
  rw [← h] at HC
  have HE := Lib.hid h
  clear h
  go_enter Try.func40, Try.ntmps40
  go_wp2_with (go_at_call 45; refine (HC.out _).mono ?_; rintro e w' ⟨rfl, rfl⟩)
  go_loopg [6] (8 * s.size - n) (fun k v6 wr => ∃ i d : Nat, v6 = .int .i64 (i : Int) ∧ n ≤ i ∧ i ≤ 8 * s.size ∧ (∀ j, n ≤ j → j < i → hasB s j = false) ∧ wr = w.drewN d ∧ k = 8 * s.size - i)
  case atStart => exact ⟨n, 0, rfl, Nat.le_refl _, hsn, (fun j hj hk => by omega), rfl, rfl⟩
  case round =>
    obtain ⟨i, d, rfl, hni, hi, hall, hwr, rfl⟩ := hrel
    have HA := Lib.hid hall
    have HW := Lib.hid hwr
    clear hall hwr
    by_cases hlt : i < 8 * s.size
    · have c1 : (i : Int) < 8 * (s.size : Int) := by omega
      have HH := Lib.hid (fun w => has_at s (i : Int) w (by omega) (by unfold I64; omega))
      rw [hasI_nat] at HH
      cases hb : hasB s i with
      | true =>
        rw [hb] at HH
        have HO := Lib.hid (show ¬ OfOk s n from fun k => by have := k.2 i hni hlt; rw [hb] at this; cases this)
        clear hb
        go_wp2_with (go_at_call 17; refine (HH.out _).mono ?_; rintro e w' ⟨rfl, ⟨q, rfl⟩⟩)
        go_ret2
        exact .inr ⟨HO.out, rfl, by rw [HW.out]; exact pw_below_drewN (pw_below_drewN (Below.refl _ _) _) _⟩
      | false =>
        rw [hb] at HH
        have HA2 := Lib.hid (show ∀ j, n ≤ j → j < i + 1 → hasB s j = false from fun j hj hk => by
          by_cases e : j = i
          · rw [e]; exact hb
          · exact HA.out j hj (by omega))
        clear hb
        go_wp2_with (go_at_call 17; refine (HH.out _).mono ?_; rintro e w' ⟨rfl, ⟨q, rfl⟩⟩)
        go_roundg (8 * s.size - (i + 1))
        case measure => omega
        case rel => exact ⟨i + 1, _, by simp, by omega, by omega, HA2.out, by rw [HW.out, World.drewN_drewN], rfl⟩
    · have c1 : ¬ (i : Int) < 8 * (s.size : Int) := by omega
      have HO := Lib.hid (show OfOk s n from ⟨HE.out, fun j hj hk => HA.out j hj (by omega)⟩)
      go_wp2
      go_ret2
      have hB : Below w.heap.size w wr := by rw [HW.out]; exact pw_below_drewN (Below.refl _ _) _
      exact .inl ⟨HO.out, _, rfl, alloc_new _ _ _ rfl, hB.size, hB.alloc hB.size _⟩
theorem of_calls (s : ByteArray) (n : Nat) (w : World) (h1 : 1 ≤ n) (h2 : n ≤ 4096) : Calls Try.prog 40 #[.string s, .int .i64 (n : Int)] w (OEnd s n w) := by
  by_cases h : s.size = (n + 7) / 8
  · exact of_bits s n w h1 h2 h
  · exact of_size s n w h1 h2 h
end Go.Proofs.Ytidnkckfkgaooaa.Al
/- Maps of blocks: bits of some extents set, or clear: the walk. -/
namespace Go.Proofs.Ytidnkckfkgaooaa.Al
open Go.RowKit Go.Proofs Go.Proofs.Ytidnkckfkgaooaa.Q Go.Proofs.Ytidnkckfkgaooaa.Ext Go.Proofs.Ytidnkckfkgaooaa.Pure Go.Proofs.YtidnkckfkgaooaaW.PrintWords Go.Proofs.YtidnkckfkgaooaaW.PrintLast Go.Proofs.YtidnkckfkgaooaaW.PrintMore

/-- Of what there was, one block alone has turned. -/
structure OnlyAt (p : Nat) (w w' : World) : Prop where
  os : w'.os = w.os
  tape : w'.tape = w.tape
  output : w'.output = w.output
  size : w.heap.size ≤ w'.heap.size
  block : ∀ b, b < w.heap.size → b ≠ p → w'.heap[b]? = w.heap[b]?
theorem OnlyAt.refl (p : Nat) (w : World) : OnlyAt p w w := ⟨rfl, rfl, rfl, Nat.le_refl _, fun _ _ _ => rfl⟩
theorem OnlyAt.trans {p : Nat} {a b c : World} (h : OnlyAt p a b) (k : OnlyAt p b c) : OnlyAt p a c :=
  ⟨k.os.trans h.os, k.tape.trans h.tape, k.output.trans h.output, Nat.le_trans h.size k.size, fun i hi hp => (k.block i (Nat.lt_of_lt_of_le hi h.size) hp).trans (h.block i hi hp)⟩
theorem OnlyAt.of {p : Nat} {a b : World} (h : Below a.heap.size a b) : OnlyAt p a b := ⟨h.os, h.tape, h.output, h.size, fun i hi _ => h.block i hi⟩
theorem OnlyAt.set {p : Nat} {a b : World} (h : OnlyAt p a b) (o : Nat) (v : Value) : OnlyAt p a (b.setCell ⟨p, o, none⟩ v) :=
  ⟨h.os, h.tape, h.output, by simpa using h.size, fun i hi hp => (Below.heap_setCell _ _ _ _ hp).trans (h.block i hi hp)⟩
theorem OnlyAt.below {p B : Nat} {z a b : World} (h : OnlyAt p a b) (hz : Below B z a) (hp : B ≤ p) (hs : B ≤ a.heap.size) : Below B z b :=
  ⟨h.os.trans hz.os, h.tape.trans hz.tape, h.output.trans hz.output, Nat.le_trans hz.size h.size, fun i hi => (h.block i (by omega) (by omega)).trans (hz.block i hi)⟩

/-! ### Extents in memory -/
def ExRow (w : World) (v : Value) (L : List (Int × Int)) : Prop := (v = .slice none 0 0 ∧ L = []) ∨ ∃ a cap, v = .slice (some a) L.length cap ∧ ∀ i x, L[i]? = some x → w.cell? (a.add (i * 2)) = some (.int .i64 x.1) ∧ w.cell? (a.add (i * 2 + 1)) = some (.int .i64 x.2)
theorem ExRow.form {w : World} {v : Value} {L : List (Int × Int)} (h : ExRow w v L) : ∃ o c, v = .slice o L.length c := by
  rcases h with ⟨rfl, rfl⟩ | ⟨a, c, rfl, _⟩
  · exact ⟨none, 0, rfl⟩
  · exact ⟨some a, c, rfl⟩
theorem ExRow.at' {w : World} {o : Option Addr} {n c : Nat} {L : List (Int × Int)} (h : ExRow w (.slice o n c) L) (i : Nat) (x : Int × Int) (hi : L[i]? = some x) : ∃ a, o = some a ∧ w.cell? (a.add (i * 2)) = some (.int .i64 x.1) ∧ w.cell? (a.add (i * 2 + 1)) = some (.int .i64 x.2) := by
  rcases h with ⟨h1, rfl⟩ | ⟨a, cap, h1, h2⟩
  · cases hi
  · obtain ⟨rfl, rfl, rfl⟩ := Value.slice.inj h1
    exact ⟨a, rfl, h2 i x hi⟩
theorem ExRow.keep {w w' : World} {v : Value} {L : List (Int × Int)} {p : Nat} (h : ExRow w v L) (hp : ∀ a l c, v = .slice (some a) l c → 0 < l → a.block ≠ p) (k : OnlyAt p w w') : ExRow w' v L := by
  rcases h with h | ⟨a, cap, h1, h2⟩
  · exact .inl h
  · refine .inr ⟨a, cap, h1, fun i x hi => ?_⟩
    have hb : ∀ j u, w.cell? (a.add j) = some u → w'.cell? (a.add j) = some u := fun j u hu => by
      have hlt := block_lt_of_cell hu
      have he := k.block _ hlt (by show (a.add j).block ≠ p; rw [show (a.add j).block = a.block from by unfold Addr.add; split <;> rfl]; exact hp a _ _ h1 (Nat.lt_of_le_of_lt (Nat.zero_le i) (List.getElem?_eq_some_iff.1 hi).1))
      unfold World.cell? at *
      rw [he]
      exact hu
    exact ⟨hb _ _ (h2 i x hi).1, hb _ _ (h2 i x hi).2⟩

/-! ### Set -/
def setX (on : Bool) (f : Int) (s : ByteArray) (k : Nat) : ByteArray := withI s (f + (k : Int)) on
def setN (on : Bool) (f : Int) : Nat → ByteArray → ByteArray
  | 0, s => s
  | k + 1, s => withI (setN on f k s) (f + (k : Int)) on
/-- The bits of some extents set, or clear. -/
def setE (on : Bool) : List (Int × Int) → ByteArray → ByteArray
  | [], s => s
  | x :: r, s => setE on r (setN on x.1 x.2.toNat s)
theorem setE_snoc (on : Bool) : ∀ (l : List (Int × Int)) (x : Int × Int) (s : ByteArray), setE on (l ++ [x]) s = setN on x.1 x.2.toNat (setE on l s)
  | [], _, _ => rfl
  | y :: l, x, s => setE_snoc on l x (setN on y.1 y.2.toNat s)
theorem size43 : (Try.prog.info? 43).map (·.size) = some 2 := by kernel_rfl
theorem und43 : (match Try.prog.underlying 43 with | some (.struct _) => true | _ => false) = true := by kernel_rfl
theorem load_ext (w : World) (a : Addr) (x y : Value) (h0 : w.cell? a = some x) (h1 : w.cell? (a.add 1) = some y) : (Instr.loadAt 43 (.pointer (some a))).run Try.prog w = .ok (.agg #[x, y]) w := by
  have hc : (loadCells a 2).run Try.prog w = .ok #[x, y] w := run_loadCells_list (P := Try.prog) w a [x, y] (fun j v hj => by
    match j with
    | 0 =>
      simp at hj
      subst hj
      rw [show a.add 0 = a from by unfold Addr.add; simp]
      exact h0
    | 1 =>
      simp at hj
      subst hj
      exact h1
    | j + 2 => simp at hj)
  have hv : (loadVar 43 a).run Try.prog w = .ok (.agg #[x, y]) w := by
    cases hq : Try.prog.info? 43 with
    | none => have := size43; simp [hq] at this
    | some i =>
      have hs : i.size = 2 := by
        have := size43
        rw [hq] at this
        exact Option.some.inj this
      have hagg : (isAgg 43).run Try.prog w = .ok true w := by
        have h := und43
        unfold isAgg
        split at h
        · rename_i fs hu
          rw [Sem.run_bind, run_underlying hu w]
          rfl
        · cases h
      simp [loadVar, Sem.run_bind, hagg, sizeOf, typeInfo, hq, hs, hc]
  simp only [Instr.loadAt, Instr.sureAddr, Sem.run_bind, Sem.run_pure, Result.andThen_ok, hv]
theorem wpList_load_ext {ops : Array Oper} {rest : List Oper} {o : Oper} {a : Act} {w : World} {Q : Exit → Act → World → Prop} (hgd : o.guard = none) (x : Operand) (ho : o.op = .load 43 x)
    (p : Addr) (hx : a.eval x = .pointer (some p)) (u v : Value) (h0 : w.cell? p = some u) (h1 : w.cell? (p.add 1) = some v)
    (h : wpList Try.prog ops Q rest (a.put o.dst (.agg #[u, v])) w) : wpList Try.prog ops Q (o :: rest) a w :=
  wpList_plain hgd fun _ hK => by
    unfold Oper.wp execOp
    simp only [ho, hx, Sem.run_bind, load_ext w p u v h0 h1, Result.andThen_ok]
    exact hK _ _ h
theorem Addr.add_twice (a : Addr) (i j : Nat) : (a.add i).add j = a.add (i + j) := by
  obtain ⟨b, o, s⟩ := a
  unfold Addr.add
  by_cases hi : i = 0
  · subst hi
    simp
  · by_cases hj : j = 0
    · subst hj
      simp [hi]
    · rw [if_neg hi, if_neg hj, if_neg (by omega), Nat.add_assoc]
/-- In Set's loops. -/
structure SetI (w : World) (p n : Nat) (v : Value) (L : List (Int × Int)) (t : ByteArray) (wr : World) : Prop where
  only : OnlyAt p w wr
  m : MapAt wr p n t
  row : ExRow wr v L
theorem SetI.keepB {w w2 w3 : World} {p n : Nat} {v : Value} {L : List (Int × Int)} {t : ByteArray} (h : SetI w p n v L t w2) (hv : ∀ a l c, v = .slice (some a) l c → 0 < l → a.block ≠ p) (hB : Below w2.heap.size w2 w3) : SetI w p n v L t w3 :=
  ⟨h.only.trans (.of hB), h.m.keepB hB, h.row.keep hv (.of hB)⟩
theorem SetI.put {w w2 : World} {p n : Nat} {v : Value} {L : List (Int × Int)} {t : ByteArray} (h : SetI w p n v L t w2) (hv : ∀ a l c, v = .slice (some a) l c → 0 < l → a.block ≠ p) (u : ByteArray) : SetI w p n v L u (w2.setCell ⟨p, 1, none⟩ (.string u)) :=
  ⟨h.only.set _ _, h.m.set u, h.row.keep hv ((OnlyAt.refl p w2).set _ _)⟩
end Go.Proofs.Ytidnkckfkgaooaa.Al
/- Maps of blocks: Set: the walk. -/
namespace Go.Proofs.Ytidnkckfkgaooaa.Al
open Go.RowKit Go.Proofs Go.Proofs.Ytidnkckfkgaooaa.Q Go.Proofs.Ytidnkckfkgaooaa.Ext Go.Proofs.Ytidnkckfkgaooaa.Pure Go.Proofs.YtidnkckfkgaooaaW.PrintWords Go.Proofs.YtidnkckfkgaooaaW.PrintLast Go.Proofs.YtidnkckfkgaooaaW.PrintMore

attribute [local irreducible] Go.wpQuiet withI
set_option maxHeartbeats 4000000 in
set_option maxRecDepth 100000 in
theorem set_calls (w : World) (p n : Nat) (s : ByteArray) (v : Value) (L : List (Int × Int)) (on : Bool) (hm : MapAt w p n s) (hr : ExRow w v L) (hv : ∀ a l c, v = .slice (some a) l c → 0 < l → a.block ≠ p) (hL : L.length ≤ 1000000)
    (hb : ∀ x ∈ L, 0 ≤ x.1 ∧ x.1 ≤ 1000000000 ∧ 0 ≤ x.2 ∧ x.2 ≤ 1000000000) :
    Calls Try.prog 47 #[.pointer (some ⟨p, 0, none⟩), v, .bool on] w fun e w' => e = .returned (.tuple #[]) ∧ MapAt w' p n (setE on L s) ∧ OnlyAt p w w' := by
  obtain ⟨o, c, rfl⟩ := hr.form
  have HS : SetI w p n (.slice o L.length c) L (setE on (L.take 0) s) w := ⟨.refl p w, hm, hr⟩
  have HV := Lib.hid hv
  have HB := Lib.hid hb
  clear hm hr hv hb
  go_enter Try.func47, Try.ntmps47
  go_wp2
  go_loopg [7, 8, 11] L.length (fun k _ _ v11 wr => ∃ i : Nat, v11 = .int .i64 (i : Int) ∧ i ≤ L.length ∧ SetI w p n (.slice o L.length c) L (setE on (L.take i) s) wr ∧ k = L.length - i)
  case atStart => exact ⟨0, rfl, by omega, HS, rfl⟩
  case round =>
    clear HS
    obtain ⟨i, rfl, hi, I, rfl⟩ := hrel
    by_cases hil : i < L.length
    · obtain ⟨x, hx⟩ : ∃ x, L[i]? = some x := ⟨_, List.getElem?_eq_getElem hil⟩
      obtain ⟨a, rfl, h0, h1⟩ := I.row.at' i x hx
      have hxb := HB.out x (List.mem_of_getElem? hx)
      obtain ⟨f, m⟩ := x
      obtain ⟨m, rfl⟩ := Int.eq_ofNat_of_zero_le (show 0 ≤ m from hxb.2.2.1)
      obtain ⟨hf0, hf1, _, hm1⟩ := hxb
      simp only at hf0 hf1 hm1 h0 h1
      have hm2 : m ≤ 1000000000 := by omega
      have c1 : (i : Int) < (L.length : Int) := by omega
      have c2 : (0 : Int) ≤ (i : Int) := by omega
      have c3 : ((i : Int)).toNat = i := by omega
      rw [← Addr.add_twice] at h1
      have HE := Lib.hid (show setE on (L.take (i + 1)) s = setN on f m (setE on (L.take i) s) from by
        rw [List.take_add_one, hx]
        show setE on (L.take i ++ [(f, (m : Int))]) s = _
        rw [setE_snoc]
        rfl)
      have HD := Lib.hid (I.keepB HV.out ((Below.refl _ _).alloc (Nat.le_refl _) (.cells #[.int .i64 f, .int .i64 (m : Int)] 43 (0, 0))))
      have hD := alloc_new wr (.cells #[.int .i64 f, .int .i64 (m : Int)] 43 (0, 0)) _ rfl
      have hne : wr.heap.size ≠ p := by have := lt_of_block I.m; omega
      clear hx hm1
      go_wp2_with (refine wpList_load_ext rfl (.tmp 13) rfl (a.add (i * 2)) rfl _ _ h0 h1 ?_)
      obtain ⟨W1, hW1⟩ : ∃ W1, W1 = wr.alloc (.cells #[.int .i64 f, .int .i64 (m : Int)] 43 (0, 0)) := ⟨_, rfl⟩
      have I1 := HD.out
      rw [← hW1] at I1 hD ⊢
      clear hW1 HD h0 h1 I
      generalize wr.heap.size = D at hD hne ⊢
      have I1' : SetI w p n (.slice (some a) L.length c) L (setN on f 0 (setE on (L.take i) s)) W1 := I1
      clear I1
      generalize setE on (L.take i) s = T at *
      go_loopg [8, 17] m (fun k _ v17 W => ∃ j : Nat, v17 = .int .i64 (j : Int) ∧ j ≤ m ∧ SetI w p n (.slice (some a) L.length c) L (setN on f j T) W ∧ W.heap[D]? = some (.cells #[.int .i64 f, .int .i64 (m : Int)] 43 (0, 0)) ∧ k = m - j)
      case atStart => exact ⟨0, rfl, by omega, I1', hD, rfl⟩
      case round =>
        clear I1' hD
        obtain ⟨j, rfl, hj, I, hD, rfl⟩ := hrel
        by_cases hjm : j < m
        · have d1 : (j : Int) < (m : Int) := by omega
          obtain ⟨t, ht⟩ : ∃ t, t = setN on f j T := ⟨_, rfl⟩
          have HT := Lib.hid (show setN on f (j + 1) T = withI t (f + (j : Int)) on from by rw [ht]; rfl)
          rw [← ht] at I
          clear ht
          have hw1 : IntKind.i64.wrap (f + (j : Int)) = f + (j : Int) := by rw [IntKind.wrap_i64]; omega
          have HC := Lib.hid (fun w => with_at t (f + (j : Int)) on w (by unfold I64; omega))
          have cm : ∀ d os, (Go.Sort.grow (redrawn wr d) os).cell? ⟨p, 1, none⟩ = some (.string t) := fun d os => (I.m.keepB (below_regrown wr d os)).c1
          have cd : ∀ d os, (Go.Sort.grow (redrawn wr d) os).cell? ⟨D, 0, none⟩ = some (.int .i64 f) := fun d os => by
            rw [block_cell (((below_regrown wr d os).block _ (lt_of_block hD)).trans hD)]
            rfl
          go_wp2
          refine QT.wp_region_below_tail 13 (by kernel_rfl) (by kernel_rfl) ?_
          simp only [List.take_succ_cons, List.take_zero, List.drop_succ_cons, List.drop_zero]
          quiet_step (fail)
          quiet_step (fail)
          quiet_step (fail)
          quiet_step (fail)
          quiet_step (fail)
          quiet_step (fail)
          quiet_step (fail)
          quiet_step (fail)
          quiet_step (fail)
          quiet_step (fail)
          quiet_step ((go_at_call 19; exact Calls.regrown_of (HC.out _)))
          quiet_step (fail)
          quiet_step (fail)
          refine wpQuiet_nil ?_
          intro w3 hw'
          obtain ⟨pq, hw''⟩ := hw'
          have hB3 := below_regrown wr pq.d pq.os
          have I3 := I.keepB HV.out hB3
          have hD3 := (hB3.block _ (lt_of_block hD)).trans hD
          rw [← hw''] at I3 hD3
          clear hw'' hB3 I hD cm cd hw1
          have cm := I3.m.c1
          have fz := block_frozen I3.m 1
          go_wp2
          go_roundg (m - (j + 1))
          case measure => omega
          case rel => exact ⟨j + 1, by simp, by omega, by rw [HT.out]; exact I3.put HV.out _, (Below.heap_setCell _ _ _ _ hne).trans hD3, rfl⟩
        · have d1 : ¬ (j : Int) < (m : Int) := by omega
          have ejm : j = m := by omega
          subst ejm
          rw [← HE.out] at I
          go_wp2
          go_roundg (L.length - (i + 1))
          case measure => omega
          case rel => exact ⟨i + 1, by simp, by omega, I, rfl⟩
    · have eil : i = L.length := by omega
      subst eil
      have hm2 := I.m
      rw [List.take_of_length_le (Nat.le_refl _)] at hm2
      have ho := I.only
      clear I
      go_wp2
      go_end0
      exact ⟨rfl, hm2, ho⟩
end Go.Proofs.Ytidnkckfkgaooaa.Al
