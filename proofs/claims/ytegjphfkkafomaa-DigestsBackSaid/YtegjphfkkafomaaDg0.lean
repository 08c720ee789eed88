/- Digests: values, memory, and a digest's text by the program and by the reference (turned from the other seat's texts by wip/tools/port.py). -/
import Derived.ArgAppend
import Derived.Below
import Derived.BigQuiet
import Derived.Deep.AppendLies
import Derived.Deep.CutBlock
import Derived.Deep.DeepCutAuto
import Derived.Deep.Draws
import Derived.Deep.LoopGhost
import Derived.Deep.OwnRows
import Derived.Deep.Quiet
import Derived.Deep.QuietTactic
import Derived.Deep.RegionHeld3
import Derived.KernelRfl
import Derived.Laws.BitsAllLaws
import Derived.Laws.BitsLemmas
import Derived.Laws.BytesArg
import Derived.Laws.IdiomCopy
import Derived.Laws.MakeOwn
import Derived.Laws.OwnMore
import Derived.Laws.Rows
import Derived.Laws.Slices
import Derived.Lib.AppendStr
import Derived.Lib.ConvBytes
import Derived.Lib.Hide
import Derived.Lib.QuietBelow
import Derived.Maps.AppendAt
import Derived.OrdersHeld
import Derived.Outline
import Derived.OwnWalk
import Derived.RangeFuncRecord
import Derived.RowKit
import Derived.RowKit3
import Derived.StillTail
import Derived.Tactics
import Derived.WalkKit
import Derived.WideLaws
import Derived.Stop.BytesEq
import Derived.Test.YtegjphfkkafomaaBld
import Derived.Test.YtegjphfkkafomaaWWords
import Derived.Test.YtegjphfkkafomaaWLast
import Derived.Test.YtegjphfkkafomaaWMore
namespace Go.Proofs.Ytegjphfkkafomaa.Dg
open Go.RowKit Go.Proofs Go.Proofs.YtegjphfkkafomaaW.PrintWords Go.Proofs.YtegjphfkkafomaaW.PrintLast Go.Proofs.YtegjphfkkafomaaW.PrintMore
theorem block_cell {w : World} {g : Nat} {cs : Array Value} {t : TypeId} {fr : Nat × Nat} (h : w.heap[g]? = some (.cells cs t fr)) (j : Nat) : w.cell? ⟨g, j, none⟩ = cs[j]? := by
  simp [World.cell?, h]
theorem block_frozen {w : World} {g : Nat} {cs : Array Value} {t : TypeId} (h : w.heap[g]? = some (.cells cs t (0, 0))) (j : Nat) : w.frozen? ⟨g, j, none⟩ = false := by
  simp only [World.frozen?, h]
  simp
theorem block_set {w : World} {g : Nat} {cs : Array Value} {t : TypeId} {fr : Nat × Nat} (h : w.heap[g]? = some (.cells cs t fr)) (j : Nat) (v : Value) : (w.setCell ⟨g, j, none⟩ v).heap[g]? = some (.cells (cs.setIfInBounds j v) t fr) := by
  simp only [World.setCell, Array.getElem?_modify]
  rw [if_pos trivial, h]
  rfl
theorem alloc_new (w : World) (o : Obj) (g : Nat) (h : g = w.heap.size) : (w.alloc o).heap[g]? = some o := by
  rw [h]
  exact World.alloc_heap_new w o
/-- A text's bytes, as numbers. -/
def fB (l : List Nat) (i : Nat) : Nat := l.getD i 0
theorem fB_lt (l : List Nat) (h : ∀ x ∈ l, x < 256) (i : Nat) : fB l i < 256 := by
  unfold fB
  by_cases hi : i < l.length
  · rw [List.getD_eq_getElem?_getD, List.getElem?_eq_getElem hi]
    exact h _ (List.getElem_mem hi)
  · rw [List.getD_eq_getElem?_getD, List.getElem?_eq_none (by omega)]
    decide
/-- Bytes as cells. -/
def cells8 (l : List Nat) : List Value := l.map fun x => Value.int .u8 ((x : Nat) : Int)
theorem cells8_length (l : List Nat) : (cells8 l).length = l.length := by unfold cells8; simp
theorem cells8_get (l : List Nat) (i : Nat) (h : i < l.length) : (cells8 l)[i]? = some (.int .u8 ((fB l i : Nat) : Int)) := by
  unfold cells8 fB
  rw [List.getElem?_map, List.getElem?_eq_getElem h, List.getD_eq_getElem?_getD, List.getElem?_eq_getElem h]
  rfl
theorem cells8_one (l : List Nat) : ∀ u ∈ cells8 l, u.oneCell' = true := by
  intro u hu
  obtain ⟨x, _, rfl⟩ := List.mem_map.1 hu
  rfl
theorem lt_of_block {w : World} {g : Nat} {o : Obj} (h : w.heap[g]? = some o) : g < w.heap.size := by
  rcases Nat.lt_or_ge g w.heap.size with h1 | h1
  · exact h1
  · rw [Array.getElem?_eq_none h1] at h
    cases h
theorem add_zero (g j : Nat) : (⟨g, 0, none⟩ : Addr).add j = ⟨g, j, none⟩ := by
  unfold Addr.add
  simp
  intro h
  exact h.symm
def zero32 : Array Value := Array.replicate 32 (.int .u8 0)
/-- A digest as a value. -/
def digV (l : List Nat) : Value := .agg (cells8 l).toArray
theorem row_some {w : World} {g : Nat} {cs : Array Value} {t : TypeId} {fr : Nat × Nat} (h : w.heap[g]? = some (.cells cs t fr)) (j : Nat) (hj : j < cs.size) : ∃ x, w.cell? ⟨g, j, none⟩ = some x := by
  rw [block_cell h, Array.getElem?_eq_getElem hj]
  exact ⟨_, rfl⟩
theorem row_there {w : World} {g : Nat} {cs : Array Value} {t : TypeId} (h : w.heap[g]? = some (.cells cs t (0, 0))) : w.there g 0 cs.size := by
  intro j hj
  rw [Nat.zero_add]
  refine ⟨?_, block_frozen h j⟩
  obtain ⟨x, hx⟩ := row_some h j hj
  rw [hx]
  rfl
theorem setCells_below {g : Nat} : ∀ (vs : List Value) (o : Nat) (w : World) (B : Nat) (a : World), B ≤ g → Below B a w → Below B a (w.setCells g o vs)
  | [], _, _, _, _, _, h => h
  | _ :: r, o, _, B, a, hB, h => setCells_below r (o + 1) _ B a hB (h.setCell hB _)
theorem size24 : (Try.prog.info? 24).map (·.size) = some 32 := by kernel_rfl
theorem und24 : Try.prog.underlying 24 = some (.array 32 5) := by kernel_rfl
def laidOver (cs : Array Value) : Nat → List Value → Array Value
  | _, [] => cs
  | o, v :: r => laidOver (cs.setIfInBounds o v) (o + 1) r
theorem laidOver_size : ∀ (vs : List Value) (o : Nat) (cs : Array Value), (laidOver cs o vs).size = cs.size
  | [], _, _ => rfl
  | v :: r, o, cs => by
    unfold laidOver
    rw [laidOver_size r, Array.size_setIfInBounds]
theorem laidOver_old : ∀ (vs : List Value) (o : Nat) (cs : Array Value) (i : Nat), i < o → (laidOver cs o vs)[i]? = cs[i]?
  | [], _, _, _, _ => rfl
  | v :: r, o, cs, i, h => by
    unfold laidOver
    rw [laidOver_old r _ _ i (by omega), Array.getElem?_setIfInBounds_ne (by omega)]
theorem laidOver_new : ∀ (vs : List Value) (o : Nat) (cs : Array Value) (i : Nat), i < vs.length → o + i < cs.size → (laidOver cs o vs)[o + i]? = vs[i]?
  | [], _, _, _, h, _ => by cases h
  | v :: r, o, cs, 0, _, h => by
    unfold laidOver
    show (laidOver (cs.setIfInBounds o v) (o + 1) r)[o]? = some v
    rw [laidOver_old r _ _ o (by omega), Array.getElem?_setIfInBounds_self_of_lt (by omega)]
  | v :: r, o, cs, i + 1, h1, h => by
    unfold laidOver
    rw [show o + (i + 1) = o + 1 + i from by omega, laidOver_new r (o + 1) _ i (by simpa using h1) (by rw [Array.size_setIfInBounds]; omega)]
    rfl
theorem setCells_row {g : Nat} {t : TypeId} {fr : Nat × Nat} : ∀ (vs : List Value) (o : Nat) (w : World) (cs : Array Value), w.heap[g]? = some (.cells cs t fr) → (w.setCells g o vs).heap[g]? = some (.cells (laidOver cs o vs) t fr)
  | [], _, _, _, h => h
  | v :: r, o, _, _, h => setCells_row r (o + 1) _ _ (block_set h o v)
/-- A whole row, stored. -/
theorem setCells_whole {g : Nat} {t : TypeId} {fr : Nat × Nat} (vs : List Value) (w : World) (cs : Array Value) (h : w.heap[g]? = some (.cells cs t fr)) (hs : cs.size = vs.length) : (w.setCells g 0 vs).heap[g]? = some (.cells vs.toArray t fr) := by
  rw [setCells_row vs 0 w cs h]
  congr 2
  apply Array.ext_getElem?
  intro i
  by_cases hi : i < vs.length
  · have := laidOver_new vs 0 cs i hi (by omega)
    rw [Nat.zero_add] at this
    rw [this]
    simp
  · rw [Array.getElem?_eq_none (by rw [laidOver_size]; omega), Array.getElem?_eq_none (by simp; omega)]
theorem digV_size (l : List Nat) (h : l.length = 32) : (Try.prog.info? 24).map (·.size) = some (cells8 l).toArray.size := by
  rw [size24, List.size_toArray, cells8_length, h]
theorem there_32 {w : World} {g : Nat} {cs : Array Value} {t : TypeId} (h : w.heap[g]? = some (.cells cs t (0, 0))) (hs : cs.size = 32) (l : List Nat) (hl : l.length = 32) : w.there g 0 (cells8 l).toArray.size := by
  rw [List.size_toArray, cells8_length, hl, ← hs]
  exact row_there h
def zeroD : List Nat := List.replicate 32 0
theorem cells8_bytes (l : List Nat) (h : ∀ x ∈ l, x < 256) : cells8 l = (l.map UInt8.ofNat).map Extern.Stop.cell := by
  unfold cells8
  rw [List.map_map]
  refine List.map_congr_left fun x hx => ?_
  show _ = Value.int .u8 (Int.ofNat (UInt8.ofNat x).toNat)
  rw [UInt8.toNat_ofNat_of_lt' (h x hx)]
  rfl
theorem bytes_beq (l m : List Nat) (hl : ∀ x ∈ l, x < 256) (hm : ∀ x ∈ m, x < 256) : (l.map UInt8.ofNat == m.map UInt8.ofNat) = (l == m) := by
  rw [Bool.eq_iff_iff, beq_iff_eq, beq_iff_eq]
  refine ⟨fun h => ?_, fun h => by rw [h]⟩
  have h1 : ∀ k : List Nat, (∀ x ∈ k, x < 256) → (k.map UInt8.ofNat).map UInt8.toNat = k := by
    intro k hk
    rw [List.map_map]
    calc k.map (UInt8.toNat ∘ UInt8.ofNat) = k.map id := List.map_congr_left fun x hx => UInt8.toNat_ofNat_of_lt' (hk x hx)
      _ = k := List.map_id k
  rw [← h1 l hl, ← h1 m hm, h]
theorem size5 : ∀ w, (sizeOf 5).run Try.prog w = .ok 1 w := fun _ => by kernel_rfl
theorem equalIn_dig (l m : List Nat) (h1 : l.length = 32) (h2 : m.length = 32) (hl : ∀ x ∈ l, x < 256) (hm : ∀ x ∈ m, x < 256) (w : World) :
    (Op.equalIn 10000 24 (.agg (cells8 l).toArray) (.agg (cells8 m).toArray)).run Try.prog w = .ok (l == m) w := by
  rw [cells8_bytes l hl, cells8_bytes m hm, run_equalIn_bytes w 9998 24 5 32 und24 Try.underlying5 size5 _ _ (by simpa using h1) (by simpa using h2), bytes_beq l m hl hm]
theorem guard_dig (op : BinOp) (x y : Operand) (l m : List Nat) (w : World) : (eqGuard op 24 x y (digV l) (digV m)).run Try.prog w = .ok () w :=
  run_eqGuard_agg w op 24 x y _ _ Try.eqGuardType24
theorem eql_dig (l m : List Nat) (h1 : l.length = 32) (h2 : m.length = 32) (hl : ∀ x ∈ l, x < 256) (hm : ∀ x ∈ m, x < 256) (w : World) :
    (Go.binOp .eql 24 (digV l) (digV m)).run Try.prog w = .ok (.bool (l == m)) w := by
  unfold digV
  rw [run_eql_struct, equalIn_dig l m h1 h2 hl hm]
  rfl
theorem neq_dig (l m : List Nat) (h1 : l.length = 32) (h2 : m.length = 32) (hl : ∀ x ∈ l, x < 256) (hm : ∀ x ∈ m, x < 256) (w : World) :
    (Go.binOp .neq 24 (digV l) (digV m)).run Try.prog w = .ok (.bool (!(l == m))) w := by
  unfold digV
  rw [run_neq_struct, equalIn_dig l m h1 h2 hl hm]
  rfl
/-- A whole array loaded, in a region that draws, guarded or not. -/
theorem wpQuiet_load_rowG {P : Program} {ops : Array Oper} {C : World → Prop} {Q : Act → Prop} {a : Act} {o : Oper} {rest : List Oper} (hgd : Region.wanted o (yielded ops a.tmps) = true) (ty : TypeId) (x : Operand) (ho : o.op = .load ty x)
    (g : Nat) (hx : a.eval x = .pointer (some ⟨g, 0, none⟩)) (t : TypeId) (cs : Array Value) (fr : Nat × Nat) (d : TypeDesc) (hC : ∀ w, C w → w.heap[g]? = some (.cells cs t fr))
    (hu : P.underlying ty = some d) (hd : (match d with | .struct _ | .array _ _ => true | _ => false) = true) (hi : (P.info? ty).map (·.size) = some cs.size)
    {v : Value} (hv : v = .agg cs) (h : wpQuiet P ops C Q rest (a.put o.dst v)) : wpQuiet P ops C Q (o :: rest) a := by
  subst hv
  unfold wpQuiet
  rw [if_pos hgd]
  refine ⟨.agg cs, fun w hw => ?_, h⟩
  unfold Oper.quietAt execOp
  simp only [ho, hx, Instr.loadAt, Instr.sureAddr, Sem.run_bind, Sem.run_pure, Result.andThen_ok, run_loadVar_row w g t ty cs fr d (hC w hw) hu hd hi]
  exact ⟨rfl, rfl⟩
theorem eql_same (l : List Nat) (h1 : l.length = 32) (hl : ∀ x ∈ l, x < 256) (w : World) : (Go.binOp .eql 24 (digV l) (digV l)).run Try.prog w = .ok (.bool true) w := by
  rw [eql_dig l l h1 h1 hl hl]
  simp
theorem neq_same (l : List Nat) (h1 : l.length = 32) (hl : ∀ x ∈ l, x < 256) (w : World) : (Go.binOp .neq 24 (digV l) (digV l)).run Try.prog w = .ok (.bool false) w := by
  rw [neq_dig l l h1 h1 hl hl]
  simp
theorem index24 (cs : Array Value) (h : cs.size = 32) (i : Nat) (v : Value) (hv : cs[i]? = some v) (w : World) : (Instr.index 24 (.agg cs) (.int .i64 (i : Int))).run Try.prog w = .ok v w := by
  obtain ⟨hi, hv'⟩ := Array.getElem?_eq_some_iff.1 hv
  have hb : (0 : Int) ≤ (i : Int) ∧ (i : Int) < ((32 : Nat) : Int) := by omega
  simp [Instr.index, run_underlying und24, asIntOf, hb, go_sem]
  rw [if_pos (by omega), hv]
  rfl
/-- The digits to the base 16. -/
def hx (n : Nat) : UInt8 := [48, 49, 50, 51, 52, 53, 54, 55, 56, 57, 97, 98, 99, 100, 101, 102].getD n 0
def hexL : List Nat → List UInt8
  | [] => []
  | c :: r => hx (c / 16) :: hx (c % 16) :: hexL r
theorem hexL_append : ∀ (l m : List Nat), hexL (l ++ m) = hexL l ++ hexL m
  | [], _ => rfl
  | c :: r, m => by
    show hx (c / 16) :: hx (c % 16) :: hexL (r ++ m) = _
    rw [hexL_append r m]
    rfl
theorem hexL_length : ∀ l : List Nat, (hexL l).length = 2 * l.length
  | [] => rfl
  | c :: r => by
    show (hexL r).length + 1 + 1 = 2 * (r.length + 1)
    rw [hexL_length r]
    omega
theorem take_snoc (l : List Nat) (i : Nat) (h : i < l.length) : l.take (i + 1) = l.take i ++ [fB l i] := by
  rw [List.take_succ_eq_append_getElem h]
  unfold fB
  rw [List.getD_eq_getElem?_getD, List.getElem?_eq_getElem h]
  rfl
theorem hexL_snoc (l : List Nat) (i : Nat) (h : i < l.length) : hexL (l.take (i + 1)) = hexL (l.take i) ++ [hx (fB l i / 16)] ++ [hx (fB l i % 16)] := by
  rw [take_snoc l i h, hexL_append, List.append_assoc]
  rfl
theorem index_hex : ∀ n : Nat, n < 16 → ∀ w : World, (Instr.index 9 (.string { data := #[48, 49, 50, 51, 52, 53, 54, 55, 56, 57, 97, 98, 99, 100, 101, 102] }) (.int .u8 (n : Int))).run Try.prog w = .ok (.int .u8 ((hx n).toNat : Int)) w
  | 0, _, _ => by kernel_rfl
  | 1, _, _ => by kernel_rfl
  | 2, _, _ => by kernel_rfl
  | 3, _, _ => by kernel_rfl
  | 4, _, _ => by kernel_rfl
  | 5, _, _ => by kernel_rfl
  | 6, _, _ => by kernel_rfl
  | 7, _, _ => by kernel_rfl
  | 8, _, _ => by kernel_rfl
  | 9, _, _ => by kernel_rfl
  | 10, _, _ => by kernel_rfl
  | 11, _, _ => by kernel_rfl
  | 12, _, _ => by kernel_rfl
  | 13, _, _ => by kernel_rfl
  | 14, _, _ => by kernel_rfl
  | 15, _, _ => by kernel_rfl
  | _ + 16, h, _ => by omega
theorem byteCells_snoc (l : List UInt8) (x : UInt8) : Lib.byteCells l ++ [.int .u8 (x.toNat : Int)] = Lib.byteCells (l ++ [x]) := by
  rw [Lib.byteCells_append]
  rfl
/-- In the digits' loop. -/
structure XI (w : World) (l : List Nat) (i : Nat) (wr : World) : Prop where
  below : Below w.heap.size w wr
  b : Lib.IsBuilder 47 5 w.heap.size (w.heap.size + 1) (Lib.byteCells (hexL (l.take i))) wr
section
attribute [local irreducible] hx hexL
set_option maxHeartbeats 2000000 in
set_option maxRecDepth 100000 in
theorem digits_calls (w : World) (l : List Nat) (hl : l.length = 32) (hb : ∀ x ∈ l, x < 256) :
    Calls Try.prog 17 #[digV l] w fun e w' => e = .returned (.string ⟨(hexL l).toArray⟩) ∧ Below w.heap.size w w' := by
  unfold digV
  have hsz : (cells8 l).toArray.size = 32 := by rw [List.size_toArray, cells8_length, hl]
  go_enter Try.func17, Try.ntmps17
  go_wp2_with (refine wpList_load_row rfl 24 (.tmp 1) rfl w.heap.size rfl 24 (cells8 l).toArray (0, 0) (.array 32 5) (by rw [Below.heap_alloc _ _ _ (by simp)]; exact alloc_new w _ _ rfl) und24 rfl (digV_size _ hl) ?_)
  go_loopg [7] 32 (fun k v7 wr => ∃ i : Nat, v7 = .int .i64 i ∧ i ≤ 32 ∧ XI w l i wr ∧ k = 32 - i)
  case atStart =>
    refine ⟨0, rfl, by omega, ⟨((Below.refl _ _).alloc (Nat.le_refl _) _).alloc (by simp) _, .inl ⟨Nat.le_succ _, .slice none 0 0, ?_, ?_, by simp [Value.ownBlock]⟩⟩, rfl⟩
    · exact alloc_new _ _ _ (by simp)
    · unfold hexL
      exact World.ownsRow_nil _ _ _ _
  case round =>
    obtain ⟨i, rfl, hi, X, rfl⟩ := hrel
    by_cases hi32 : i < 32
    · obtain ⟨c, hc⟩ : ∃ c, c = fB l i := ⟨_, rfl⟩
      have hcb : c < 256 := by rw [hc]; exact fB_lt l hb i
      have hix := index24 (cells8 l).toArray hsz i _ (by rw [List.getElem?_toArray]; exact cells8_get l i (by omega))
      rw [← hc] at hix
      have hsn := hexL_snoc l i (by omega)
      rw [← hc] at hsn
      have HS := Lib.hid hsn
      have hle : (hexL (l.take i)).length ≤ 64 := by rw [hexL_length, List.length_take]; omega
      clear hsn hc
      obtain ⟨a, ha⟩ : ∃ a, a = c / 16 := ⟨_, rfl⟩
      obtain ⟨b, hb'⟩ : ∃ b, b = c % 16 := ⟨_, rfl⟩
      rw [← ha, ← hb'] at HS
      have ha16 : a < 16 := by omega
      have hb16 : b < 16 := by omega
      have t1 : Int.tdiv (c : Int) 16 = (a : Int) := by rw [Int.tdiv_eq_ediv_of_nonneg (by omega)]; omega
      have t2 : Int.tmod (c : Int) 16 = (b : Int) := by rw [Int.tmod_eq_emod_of_nonneg (by omega)]; omega
      have t3 : (c : Int) / 16 = (a : Int) := by omega
      have t4 : (c : Int) % 16 = (b : Int) := by omega
      have t5 : (a : Int) % 256 = (a : Int) := by omega
      have t6 : (b : Int) % 256 = (b : Int) := by omega
      have x1 := index_hex a ha16
      have x2 := index_hex b hb16
      clear ha hb' ha16 hb16 hcb
      go_wp2_with (first
        | (go_at_call_of 26 (Value.int .u8 ((hx a).toNat : Int)); refine (Bld.writeByte w.heap.size (w.heap.size + 1) _ ((hx a).toNat : Int) wr X.b (by rw [Lib.byteCells_length]; omega) X.below.size).mono ?_; rintro e w2 ⟨rfl, hb2, hB2⟩; have hB2' := X.below.trans hB2; rw [byteCells_snoc] at hb2)
        | (go_at_call 26; refine (Bld.writeByte w.heap.size (w.heap.size + 1) _ ((hx b).toNat : Int) w2 (.inr hb2) (by rw [Lib.byteCells_length, List.length_append, List.length_singleton]; omega) hB2'.size).mono ?_; rintro e w3 ⟨rfl, hb3, hB3⟩; rw [byteCells_snoc] at hb3))
      have X2 : XI w l (i + 1) w3 := ⟨hB2'.trans hB3, .inr (by rw [HS.out]; exact hb3)⟩
      clear x1 x2 t1 t2 t3 t4 t5 t6
      go_roundg (32 - (i + 1))
      case measure => omega
      case rel => exact ⟨i + 1, by simp, by omega, X2, rfl⟩
    · have h32 : i = 32 := by omega
      subst h32
      have hX := X.b
      rw [List.take_of_length_le (by omega)] at hX
      go_wp2_with (go_at_call 27; refine (Bld.string w.heap.size (w.heap.size + 1) (hexL l) wr hX (fun e => by have := hexL_length l; rw [e, hl] at this; cases this)).mono ?_; rintro e w2 ⟨rfl, hB2⟩)
      go_ret
      exact ⟨rfl, X.below.trans hB2⟩
end
def preS : ByteArray := { data := #[115, 104, 97, 50, 53, 54, 58] }
/-- What a text is, behind so many bytes. -/
def textS (l : List Nat) : ByteArray := preS ++ ⟨(hexL l).toArray⟩
theorem textS_size (l : List Nat) : (textS l).size = 7 + 2 * l.length := by
  unfold textS
  rw [ByteArray.size_append]
  show 7 + (hexL l).toArray.size = _
  rw [List.size_toArray, hexL_length]
theorem textS_snoc (l : List Nat) (i : Nat) (h : i < l.length) : textS (l.take i) ++ ⟨#[hx (fB l i / 16)]⟩ ++ ⟨#[hx (fB l i % 16)]⟩ = textS (l.take (i + 1)) := by
  unfold textS
  rw [hexL_snoc l i h]
  apply ByteArray.ext
  simp
section
attribute [local irreducible] hx hexL
set_option maxHeartbeats 1000000 in
set_option maxRecDepth 100000 in
theorem text_calls (w : World) (l : List Nat) (hl : l.length = 32) (hb : ∀ x ∈ l, x < 256) :
    Calls Try.prog 8 #[digV l] w fun e w' => e = .returned (.string (textS l)) ∧ Below w.heap.size w w' := by
  have hq : ∀ w, (Op.stringOp .add { data := #[115, 104, 97, 50, 53, 54, 58] } ⟨(hexL l).toArray⟩).run Try.prog w = .ok (.string (textS l)) w := fun w => by
    refine run_string_add_sum w _ _ ?_
    show 7 + (hexL l).toArray.size ≤ _
    rw [List.size_toArray, hexL_length]
    omega
  have hB0 : Below w.heap.size w (w.alloc (.cells (cells8 l).toArray 24 (0, 0))) := (Below.refl _ _).alloc (Nat.le_refl _) _
  unfold digV
  go_enter Try.func8, Try.ntmps8
  go_wp2_with (first
    | (refine wpList_load_row rfl 24 (.tmp 1) rfl w.heap.size rfl 24 (cells8 l).toArray (0, 0) (.array 32 5) (alloc_new w _ _ rfl) und24 rfl (digV_size _ hl) ?_)
    | (go_at_call 17; refine (digits_calls _ l hl hb).mono ?_; rintro e w2 ⟨rfl, hB2⟩))
  go_ret
  exact ⟨rfl, hB0.trans (hB2.mono hB0.size)⟩
theorem slice_hex : ∀ n : Nat, n < 16 → ∀ w : World, (Instr.slice 9 (.string { data := #[48, 49, 50, 51, 52, 53, 54, 55, 56, 57, 97, 98, 99, 100, 101, 102] }) (some (.int .u8 (n : Int))) (some (.int .u8 ((n : Int) + 1))) none).run Try.prog w = .ok (.string ⟨#[hx n]⟩) w
  | 0, _, _ => by kernel_rfl
  | 1, _, _ => by kernel_rfl
  | 2, _, _ => by kernel_rfl
  | 3, _, _ => by kernel_rfl
  | 4, _, _ => by kernel_rfl
  | 5, _, _ => by kernel_rfl
  | 6, _, _ => by kernel_rfl
  | 7, _, _ => by kernel_rfl
  | 8, _, _ => by kernel_rfl
  | 9, _, _ => by kernel_rfl
  | 10, _, _ => by kernel_rfl
  | 11, _, _ => by kernel_rfl
  | 12, _, _ => by kernel_rfl
  | 13, _, _ => by kernel_rfl
  | 14, _, _ => by kernel_rfl
  | 15, _, _ => by kernel_rfl
  | _ + 16, h, _ => by omega
theorem digit_calls (w : World) (n : Nat) (h : n < 16) : Calls Try.prog 19 #[.int .u8 (n : Int)] w fun e w' => e = .returned (.string ⟨#[hx n]⟩) ∧ w' = w := by
  have h1 := slice_hex n h
  have h2 : ((n : Int) + 1) % 256 = (n : Int) + 1 := by omega
  have h3 : IntKind.u8.wrap ((n : Int) + 1) = (n : Int) + 1 := by rw [IntKind.wrap_u8]; omega
  go_enter Try.func19, Try.ntmps19
  go_wp2
  go_ret
  exact ⟨rfl, rfl⟩
/-- In the reference's text. -/
structure YI (w : World) (l : List Nat) (wr : World) : Prop where
  below : Below w.heap.size w wr
  d : wr.heap[w.heap.size]? = some (.cells (cells8 l).toArray 24 (0, 0))
theorem YI.drewN {w wr : World} {l : List Nat} (h : YI w l wr) (n : Nat) : YI w l (wr.drewN n) := ⟨pw_below_drewN h.below n, h.d⟩
end
section
attribute [local irreducible] hx hexL
attribute [local irreducible] textS
set_option maxHeartbeats 2000000 in
set_option maxRecDepth 100000 in
theorem refText_calls (w : World) (l : List Nat) (hl : l.length = 32) (hb : ∀ x ∈ l, x < 256) :
    Calls Try.prog 10 #[digV l] w fun e w' => e = .returned (.string (textS l)) ∧ Below w.heap.size w w' := by
  unfold digV
  go_enter Try.func10, Try.ntmps10
  go_wp2
  go_loopg [3, 4] 32 (fun k v3 v4 wr => ∃ i : Nat, v3 = .string (textS (l.take i)) ∧ v4 = .int .i64 i ∧ i ≤ 32 ∧ YI w l wr ∧ k = 32 - i)
  case atStart =>
    refine ⟨0, ?_, rfl, by omega, ⟨(Below.refl _ _).alloc (Nat.le_refl _) _, alloc_new w _ _ rfl⟩, rfl⟩
    kernel_rfl
  case round =>
    obtain ⟨i, rfl, rfl, hi, Y, rfl⟩ := hrel
    by_cases hi32 : i < 32
    · have hsn := textS_snoc l i (by omega)
      have hsz := textS_size (l.take i)
      rw [List.length_take] at hsz
      have hc : wr.cell? ⟨w.heap.size, i, none⟩ = some (.int .u8 ((fB l i : Nat) : Int)) := by
        rw [block_cell Y.d, List.getElem?_toArray]
        exact cells8_get l i (by omega)
      obtain ⟨c, hc'⟩ : ∃ c, c = fB l i := ⟨_, rfl⟩
      have hcb : c < 256 := by rw [hc']; exact fB_lt l hb i
      rw [← hc'] at hsn hc
      clear hc'
      obtain ⟨a, ha⟩ : ∃ a, a = c / 16 := ⟨_, rfl⟩
      obtain ⟨b, hb'⟩ : ∃ b, b = c % 16 := ⟨_, rfl⟩
      rw [← ha, ← hb'] at hsn
      have ha16 : a < 16 := by omega
      have hb16 : b < 16 := by omega
      have t1 : Int.tdiv (c : Int) 16 = (a : Int) := by rw [Int.tdiv_eq_ediv_of_nonneg (by omega)]; omega
      have t2 : Int.tmod (c : Int) 16 = (b : Int) := by rw [Int.tmod_eq_emod_of_nonneg (by omega)]; omega
      have t3 : (c : Int) / 16 = (a : Int) := by omega
      have t4 : (c : Int) % 16 = (b : Int) := by omega
      have t5 : (a : Int) % 256 = (a : Int) := by omega
      have t6 : (b : Int) % 256 = (b : Int) := by omega
      have t7 : ((i : Int)).toNat = i := by omega
      obtain ⟨s0, hs0⟩ : ∃ s, s = textS (l.take i) := ⟨_, rfl⟩
      obtain ⟨s1, hs1⟩ : ∃ s, s = s0 ++ (⟨#[hx a]⟩ : ByteArray) := ⟨_, rfl⟩
      obtain ⟨s2, hs2⟩ : ∃ s, s = s1 ++ (⟨#[hx b]⟩ : ByteArray) := ⟨_, rfl⟩
      have z0 : s0.size ≤ 100 := by rw [hs0]; omega
      have z1 : s1.size = s0.size + 1 := by rw [hs1, ByteArray.size_append]; rfl
      have q1 : ∀ w, (Op.stringOp .add s0 ⟨#[hx a]⟩).run Try.prog w = .ok (.string s1) w := fun w => by
        rw [hs1]
        exact run_string_add_sum w _ _ (by show s0.size + 1 ≤ _; omega)
      have q2 : ∀ w, (Op.stringOp .add s1 ⟨#[hx b]⟩).run Try.prog w = .ok (.string s2) w := fun w => by
        rw [hs2]
        exact run_string_add_sum w _ _ (by show s1.size + 1 ≤ _; omega)
      have hend : s2 = textS (l.take (i + 1)) := by rw [hs2, hs1, hs0]; exact hsn
      rw [← hs0]
      clear hsn hs0 hs1 hs2 z0 z1 hsz ha hb' hcb
      have HE := Lib.hid hend
      clear hend
      go_wp2
      go_quiet ((first | (go_at_call_of 19 (Value.int .u8 (a : Int)); exact Calls.quiet_of_same (digit_calls _ a ha16)) | (go_at_call 19; exact Calls.quiet_of_same (digit_calls _ b hb16))))
      go_wp2
      clear t1 t2 t3 t4 t5 t6
      go_roundg (32 - (i + 1))
      case measure => omega
      case rel => exact ⟨i + 1, by rw [HE.out], by simp, by omega, Y.drewN _, rfl⟩
    · have h32 : i = 32 := by omega
      subst h32
      go_wp2
      go_ret
      exact ⟨by first | rfl | (rw [List.take_of_length_le (by omega)]; rfl), Y.below⟩
end
theorem digV_agg (l : List Nat) : digV l = .agg (cells8 l).toArray := rfl
theorem wpQuiet_skip {P : Program} {ops : Array Oper} {C : World → Prop} {Q : Act → Prop} {a : Act} {o : Oper} {rest : List Oper} (hgd : Region.wanted o (yielded ops a.tmps) = false) (h : wpQuiet P ops C Q rest (a.put o.dst undef)) : wpQuiet P ops C Q (o :: rest) a := by
  unfold wpQuiet
  rw [if_neg (by rw [hgd]; decide)]
  exact h
/-- A digest lies at an address. -/
def DigAt (w : World) (a : Addr) (l : List Nat) : Prop := ∀ j v, (cells8 l)[j]? = some v → w.cell? (a.add j) = some v
theorem load_dig (w : World) (a : Addr) (l : List Nat) (hl : l.length = 32) (h : DigAt w a l) : (Instr.loadAt 24 (.pointer (some a))).run Try.prog w = .ok (digV l) w := by
  have hc : (loadCells a (cells8 l).length).run Try.prog w = .ok (cells8 l).toArray w := run_loadCells_list (P := Try.prog) w a (cells8 l) h
  have hv : (loadVar 24 a).run Try.prog w = .ok (.agg (cells8 l).toArray) w := by
    cases hq : Try.prog.info? 24 with
    | none => have := size24; simp [hq] at this
    | some i =>
      have hs : i.size = (cells8 l).length := by
        have := size24
        rw [hq] at this
        rw [cells8_length, hl]
        exact Option.some.inj this
      have hagg : (isAgg 24).run Try.prog w = .ok true w := by
        unfold isAgg
        rw [Sem.run_bind, run_underlying und24 w]
        rfl
      simp [loadVar, Sem.run_bind, hagg, sizeOf, typeInfo, hq, hs, hc]
  simp only [Instr.loadAt, Instr.sureAddr, Sem.run_bind, Sem.run_pure, Result.andThen_ok, hv]
  rfl
/-- A digest loaded, in a region that draws. -/
theorem wpQuiet_load_dig {ops : Array Oper} {C : World → Prop} {Q : Act → Prop} {a : Act} {o : Oper} {rest : List Oper} (hgd : Region.wanted o (yielded ops a.tmps) = true) (x : Operand) (ho : o.op = .load 24 x)
    (p : Addr) (hx : a.eval x = .pointer (some p)) (l : List Nat) (hl : l.length = 32) (hC : ∀ w, C w → DigAt w p l)
    (h : wpQuiet Try.prog ops C Q rest (a.put o.dst (digV l))) : wpQuiet Try.prog ops C Q (o :: rest) a := by
  unfold wpQuiet
  rw [if_pos hgd]
  refine ⟨digV l, fun w hw => ?_, h⟩
  unfold Oper.quietAt execOp
  simp only [ho, hx, Sem.run_bind, load_dig w p l hl (hC w hw), Result.andThen_ok]
  exact ⟨rfl, rfl⟩
theorem dig_neq_run {l m : List Nat} (h1 : l.length = 32) (h2 : m.length = 32) (hl : ∀ x ∈ l, x < 256) (hm : ∀ x ∈ m, x < 256) (h : l ≠ m) (w : World) : (Go.binOp .neq 24 (digV l) (digV m)).run Try.prog w = .ok (.bool true) w := by
  rw [neq_dig l m h1 h2 hl hm, beq_eq_false_iff_ne.mpr h]
  rfl
theorem dig_eql_run {l m : List Nat} (h1 : l.length = 32) (h2 : m.length = 32) (hl : ∀ x ∈ l, x < 256) (hm : ∀ x ∈ m, x < 256) (h : l ≠ m) (w : World) : (Go.binOp .eql 24 (digV l) (digV m)).run Try.prog w = .ok (.bool false) w := by
  rw [eql_dig l m h1 h2 hl hm, beq_eq_false_iff_ne.mpr h]
theorem wpList_load_dig {ops : Array Oper} {rest : List Oper} {o : Oper} {a : Act} {w : World} {Q : Exit → Act → World → Prop} (hgd : o.guard = none) (x : Operand) (ho : o.op = .load 24 x)
    (p : Addr) (hx : a.eval x = .pointer (some p)) (l : List Nat) (hl : l.length = 32) (hp : DigAt w p l)
    (h : wpList Try.prog ops Q rest (a.put o.dst (digV l)) w) : wpList Try.prog ops Q (o :: rest) a w :=
  wpList_plain hgd fun _ hK => by
    unfold Oper.wp execOp
    simp only [ho, hx, Sem.run_bind, load_dig w p l hl hp, Result.andThen_ok]
    exact hK _ _ h
theorem results_cell_tmp {P : Program} {fn : Func} {p q : Tmp} {ty : TypeId} (h : fn.results = #[.cell p ty, .tmp q]) (tmps : Array Value) (w : World) (g : Nat) (t : TypeId) (cs : Array Value) (fr : Nat × Nat) (d : TypeDesc) (v : Value)
    (hp : tmps.getD p undef = .pointer (some ⟨g, 0, none⟩)) (hq : tmps.getD q undef = v) (hg : w.heap[g]? = some (.cells cs t fr))
    (hu : P.underlying ty = some d) (hd : (match d with | .struct _ | .array _ _ => true | _ => false) = true) (hi : (P.info? ty).map (·.size) = some cs.size) :
    (results fn tmps).run P w = .ok (.tuple #[.agg cs, v]) w := by
  have hp' : tmps[p]?.getD undef = .pointer (some ⟨g, 0, none⟩) := by simpa using hp
  have hq' : tmps[q]?.getD undef = v := by simpa using hq
  simp [results, h, hp', hq', asAddr, run_loadVar_row w g t ty cs fr d hg hu hd hi]
end Go.Proofs.Ytegjphfkkafomaa.Dg
