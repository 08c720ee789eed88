/- Bld, Hex1, Hex2, Sha19, Sha20, Chn1, Chn2, Lst1, Lst2, Lst3, Lst4, Sha18, Lst6, Lst7, Chn3, Chn4, Lst5, Lst8, put together. -/
import Derived.Test.YtegjphfkkafomaaDoorProg
import Derived.Lib.Builder
import Derived.Lib.AppendStr
import Derived.Lib.UnsafeStr
import Derived.WalkKit
import Derived.Laws.Externs
import Derived.Laws.IdiomCopy
import Derived.Laws.BitsLemmas
import Derived.OwnWalk
import Derived.Below
import Derived.Deep.QuietTactic
import Derived.Test.YtegjphfkkafomaaDoorSha17
import Derived.Deep.RegionHeld3
/- strings.Builder: what its methods do, at this program's numbers (after the kit's worked proofs of the same functions). -/
namespace Go.Proofs.YtegjphfkkafomaaDoor.Bld
open Go Go.RowKit Go.Proofs

theorem sizeB : (Tryd.prog.info? 68).map (·.size) = some 2 := by kernel_rfl
theorem liesB : liesAt Tryd.prog Tryd.prog.depth 68 (2 / Tryd.prog.cellsOf 68) 0 68 1 = true := by kernel_rfl
theorem infoByte : (Tryd.prog.info? 5).map (fun i => (i.zero, i.size, i.bytes)) = some (some (.int .u8 0), 1, 1) := by kernel_rfl
theorem cellsByte : Tryd.prog.cellsOf 5 = 1 := by kernel_rfl
theorem neB : (68 : TypeId) ≠ 5 := by decide

set_option maxHeartbeats 1000000 in
set_option maxRecDepth 100000 in
theorem copyCheck_used (b : Nat) (w : World) (h0 : w.cell? ⟨b, 0, none⟩ = some (.pointer (some ⟨b, 0, none⟩))) :
    Calls Tryd.prog 41 #[.pointer (some ⟨b, 0, none⟩)] w fun e w' => e = .returned (.tuple #[]) ∧ w' = w := by
  obtain ⟨j, hj, _⟩ := Option.map_eq_some_iff.1 sizeB
  go_enter Tryd.func41, Tryd.ntmps41
  go_wp2
  try rw [Lib.run_neq_ptr_same w _ Tryd.underlying66 hj]
  go_wp2
  go_end0
  exact ⟨rfl, rfl⟩

set_option maxHeartbeats 1000000 in
set_option maxRecDepth 100000 in
theorem copyCheck_fresh (b : Nat) (w : World) (h0 : w.cell? ⟨b, 0, none⟩ = some (.pointer none)) (hsh : w.shape? b = some (68, 2)) (hfz : w.frozen? ⟨b, 0, none⟩ = false) :
    Calls Tryd.prog 41 #[.pointer (some ⟨b, 0, none⟩)] w fun e w' => e = .returned (.tuple #[]) ∧ w' = w.setCell ⟨b, 0, none⟩ (.pointer (some ⟨b, 0, none⟩)) := by
  obtain ⟨j, hj, hjs⟩ := Option.map_eq_some_iff.1 sizeB
  have hto := Lib.run_to_unsafe (P := Tryd.prog) w ⟨b, 0, none⟩ Tryd.underlying66 Tryd.underlying74 hj (by rw [hjs]; decide) hsh (Nat.zero_lt_succ 1)
  have hfrom := Lib.run_from_unsafe (P := Tryd.prog) w ⟨b, 0, none⟩ Tryd.underlying74 Tryd.underlying66 hj hsh liesB
  go_enter Tryd.func41, Tryd.ntmps41
  go_wp2
  try rw [run_callFunc_extern Tryd.func42 (by kernel_rfl) (by kernel_rfl) (by kernel_rfl) (e := Extern.AbiNoEscape.same) (by kernel_rfl)]
  try rw [Lib.run_noEscape]
  try simp only [Result.andThen]
  try rw [Oper.upon_value]
  go_wp2
  go_end0
  exact ⟨rfl, rfl⟩

theorem copyCheck (B b : Nat) (bs : List Value) (w : World) (h : Lib.IsBuilder 68 5 B b bs w) :
    Calls Tryd.prog 41 #[.pointer (some ⟨b, 0, none⟩)] w fun e w' => e = .returned (.tuple #[]) ∧ (Lib.BuilderAt 68 5 B b (.pointer (some ⟨b, 0, none⟩)) bs w' ∧ Below B w w') := by
  rcases h with h | h
  · refine (copyCheck_fresh b w h.cell0 h.shape h.frozen0).mono ?_
    rintro e w' ⟨rfl, rfl⟩
    exact ⟨rfl, h.used _, (Below.refl B w).setCell (p := ⟨b, 0, none⟩) h.1 _⟩
  · refine (copyCheck_used b w h.cell0).mono ?_
    rintro e w' ⟨rfl, rfl⟩
    exact ⟨rfl, h, Below.refl B _⟩

set_option maxHeartbeats 2000000 in
set_option maxRecDepth 100000 in
theorem writeByte (B b : Nat) (bs : List Value) (c : Int) (w : World) (h : Lib.IsBuilder 68 5 B b bs w) (hlen : bs.length + 1 ≤ 1000000000) (hBw : B ≤ w.heap.size) :
    Calls Tryd.prog 38 #[.pointer (some ⟨b, 0, none⟩), .int .u8 c] w fun e w' => e = .returned .nilIface ∧ (Lib.BuilderAt 68 5 B b (.pointer (some ⟨b, 0, none⟩)) (bs ++ [.int .u8 c]) w' ∧ Below B w w') := by
  obtain ⟨i0, hi, hz0, hz1, hz2⟩ := info_parts infoByte
  go_enter Tryd.func38, Tryd.ntmps38
  go_wp2_with (go_at_call 41; refine (copyCheck B b bs _ h).mono ?_)
  rintro e w1 ⟨rfl, h1, hb1⟩
  obtain ⟨hB, v, hbk, hown, hne⟩ := h1
  have c0 : w1.cell? ⟨b, 0, none⟩ = some (.pointer (some ⟨b, 0, none⟩)) := by rw [Lib.cell_of_heap hbk]; rfl
  have c1 : w1.cell? ⟨b, 1, none⟩ = some v := by rw [Lib.cell_of_heap hbk]; rfl
  go_wp2_with (at_builtin; refine wpList_append_own _ rfl _ _ 37 rfl B 5 i0 (.int .u8 0) 1 1 Tryd.underlying37 hi hz0 hz1 hz2 rfl (by decide) _ _ _ rfl (hown.alloc _) ⟨w1.heap.size, 0, none⟩ 1 1 [.int .u8 c] rfl rfl ?c1 ?c2 ?c3 ?c4 ?c5 ?_)
  case c1 =>
    intro j u hj
    match j, hj with
    | 0, hj => simp at hj; subst hj; simp [Addr.add]
  case c2 => intro u hu; simp at hu; subst hu; rfl
  case c3 => unfold maxLen; omega
  case c4 => omega
  case c5 => have := hb1.size; simp; omega
  intro v' w2 hown' hgrow _
  have hlt : b < w1.heap.size := by
    rcases Nat.lt_or_ge b w1.heap.size with h' | h'
    · exact h'
    · simp [Array.getElem?_eq_none h'] at hbk
  have hb2 : w2.heap[b]? = some (.cells #[.pointer (some ⟨b, 0, none⟩), v] 68 (0, 0)) := by
    rw [hgrow.block b (by simp; omega) (fun e => hne e.symm), Lib.alloc_old w1 _ b hlt]
    exact hbk
  have d0 : w2.cell? ⟨b, 0, none⟩ = some (.pointer (some ⟨b, 0, none⟩)) := by rw [Lib.cell_of_heap hb2]; rfl
  have d1 : w2.cell? ⟨b, 1, none⟩ = some v := by rw [Lib.cell_of_heap hb2]; rfl
  have f1 : w2.frozen? ⟨b, 1, none⟩ = false := Lib.frozen_of_heap hb2 1
  obtain ⟨g, cap, rfl⟩ : ∃ g cap, v' = .slice (some ⟨g, 0, none⟩) (bs.length + 1) cap := by
    rcases hown'.2 with ⟨_, h0⟩ | ⟨g, cap, cur, hv, _⟩
    · omega
    · exact ⟨g, cap, hv⟩
  go_wp2
  go_ret
  refine ⟨rfl, ?_, ?_⟩
  · exact Lib.BuilderAt.put (T := 68) (e := 5) hB hb2 (bs' := bs ++ [.int .u8 c]) (by simpa using hown') neB
  · exact ((hb1.alloc (by have := hb1.size; omega) _).grown hgrow (by have := hb1.size; simp; omega) (fun k hk => (hown.lt k hk).1)).setCell (p := ⟨b, 1, none⟩) hB _

set_option maxHeartbeats 1000000 in
set_option maxRecDepth 100000 in
theorem string (B b : Nat) (l : List UInt8) (w : World) (h : Lib.IsBuilder 68 5 B b (Lib.byteCells l) w) (h0 : l ≠ []) :
    Calls Tryd.prog 39 #[.pointer (some ⟨b, 0, none⟩)] w fun e w' => e = .returned (.string ⟨l.toArray⟩) ∧ Below B w w' := by
  obtain ⟨p, hB, v, hbk, hown, hne⟩ : ∃ p, Lib.BuilderAt 68 5 B b p (Lib.byteCells l) w := by
    rcases h with h | h
    · exact ⟨_, h⟩
    · exact ⟨_, h⟩
  have hl0 : l.length ≠ 0 := by simpa using h0
  rw [Lib.byteCells_length] at hown
  obtain ⟨g, cap, cur, rfl, hbg, hg, hnc, hcm, hcs, htake⟩ : ∃ g cap cur, v = .slice (some ⟨g, 0, none⟩) l.length cap ∧ B ≤ g ∧ w.heap[g]? = some (.cells cur 5 (0, 0)) ∧ l.length ≤ cap ∧ cap ≤ maxLen ∧ cur.size = cap * 1 ∧ cur.toList.take (l.length * 1) = Lib.byteCells l := by
    rcases hown.2 with ⟨_, hz⟩ | ⟨g, cap, cur, hv, r⟩
    · exact absurd hz hl0
    · exact ⟨g, cap, cur, hv, r⟩
  have c1 : w.drew.cell? ⟨b, 1, none⟩ = some (.slice (some ⟨g, 0, none⟩) l.length cap) := by
    have : w.drew.heap[b]? = some (.cells #[p, .slice (some ⟨g, 0, none⟩) l.length cap] 68 (0, 0)) := hbk
    rw [Lib.cell_of_heap this]; rfl
  have hSD : (Builtin.unsafeSliceData_ #[37] 73 #[.slice (some ⟨g, 0, none⟩) l.length cap]).run Tryd.prog w.drew = .ok (.pointer (some ⟨g, 0, none⟩)) w.drew :=
    Lib.run_unsafeSliceData_row _ _ _ _ _ _ (by omega)
  have hUS : (Builtin.unsafeString_ #[73, 3] 9 #[.pointer (some ⟨g, 0, none⟩), .int .i64 l.length]).run Tryd.prog w.drew = .ok (.string ⟨l.toArray⟩) (w.drew.freeze ⟨g, 0, none⟩ l.length) := by
    refine Lib.run_unsafeString_row w.drew 73 3 9 5 Tryd.underlying73 cellsByte g cur.size (by have hg' : w.drew.heap[g]? = some (.cells cur 5 (0, 0)) := hg; simp [World.shape?, hg']) l h0 (by omega) (by unfold maxLen at hcm; omega) ?_
    intro j x hx
    have := hown.cells (g := g) rfl j (.int .u8 x.toNat) (by simp [Lib.byteCells, hx])
    exact this
  go_enter Tryd.func39, Tryd.ntmps39
  go_wp2
  go_region
  all_goals (go_wp2; go_ret; exact ⟨rfl, Lib.below_freeze (Below.drew (Below.refl B w)) (p := ⟨g, 0, none⟩) hbg _⟩)
end Go.Proofs.YtegjphfkkafomaaDoor.Bld
/- A digest's digits: plain law, and the program's walk. -/
namespace Go.Proofs.YtegjphfkkafomaaDoor.Sha
open Go.RowKit Go.Proofs Go.Proofs.YtegjphfkkafomaaDoor.Q Go.Proofs.YtegjphfkkafomaaDoorW.PrintWords Go.Proofs.YtegjphfkkafomaaDoorW.PrintLast Go.Proofs.YtegjphfkkafomaaDoorW.PrintMore

theorem index24 (cs : Array Value) (h : cs.size = 32) (i : Nat) (v : Value) (hv : cs[i]? = some v) (w : World) : (Instr.index 24 (.agg cs) (.int .i64 (i : Int))).run Tryd.prog w = .ok v w := by
  obtain ⟨hi, hv'⟩ := Array.getElem?_eq_some_iff.1 hv
  have hb : (0 : Int) ≤ (i : Int) ∧ (i : Int) < ((32 : Nat) : Int) := by omega
  simp [Instr.index, run_underlying und24, asIntOf, hb, go_sem]
  rw [if_pos (by omega), hv]
  rfl
/-- The digits to the base 16. -/
def hx (n : Nat) : UInt8 := [48, 49, 50, 51, 52, 53, 54, 55, 56, 57, 97, 98, 99, 100, 101, 102].getD n 0
def hexL : List Nat → List UInt8
  | [] => []
  | c :: r => hx (c / 16) :: hx (c % 16) :: hexL r
theorem hexL_append : ∀ (l m : List Nat), hexL (l ++ m) = hexL l ++ hexL m
  | [], _ => rfl
  | c :: r, m => by
    show hx (c / 16) :: hx (c % 16) :: hexL (r ++ m) = _
    rw [hexL_append r m]
    rfl
theorem hexL_length : ∀ l : List Nat, (hexL l).length = 2 * l.length
  | [] => rfl
  | c :: r => by
    show (hexL r).length + 1 + 1 = 2 * (r.length + 1)
    rw [hexL_length r]
    omega
theorem take_snoc (l : List Nat) (i : Nat) (h : i < l.length) : l.take (i + 1) = l.take i ++ [fB l i] := by
  rw [List.take_succ_eq_append_getElem h]
  unfold fB
  rw [List.getD_eq_getElem?_getD, List.getElem?_eq_getElem h]
  rfl
theorem hexL_snoc (l : List Nat) (i : Nat) (h : i < l.length) : hexL (l.take (i + 1)) = hexL (l.take i) ++ [hx (fB l i / 16)] ++ [hx (fB l i % 16)] := by
  rw [take_snoc l i h, hexL_append, List.append_assoc]
  rfl
theorem index_hex : ∀ n : Nat, n < 16 → ∀ w : World, (Instr.index 9 (.string { data := #[48, 49, 50, 51, 52, 53, 54, 55, 56, 57, 97, 98, 99, 100, 101, 102] }) (.int .u8 (n : Int))).run Tryd.prog w = .ok (.int .u8 ((hx n).toNat : Int)) w
  | 0, _, _ => by kernel_rfl
  | 1, _, _ => by kernel_rfl
  | 2, _, _ => by kernel_rfl
  | 3, _, _ => by kernel_rfl
  | 4, _, _ => by kernel_rfl
  | 5, _, _ => by kernel_rfl
  | 6, _, _ => by kernel_rfl
  | 7, _, _ => by kernel_rfl
  | 8, _, _ => by kernel_rfl
  | 9, _, _ => by kernel_rfl
  | 10, _, _ => by kernel_rfl
  | 11, _, _ => by kernel_rfl
  | 12, _, _ => by kernel_rfl
  | 13, _, _ => by kernel_rfl
  | 14, _, _ => by kernel_rfl
  | 15, _, _ => by kernel_rfl
  | _ + 16, h, _ => by omega
theorem byteCells_snoc (l : List UInt8) (x : UInt8) : Lib.byteCells l ++ [.int .u8 (x.toNat : Int)] = Lib.byteCells (l ++ [x]) := by
  rw [Lib.byteCells_append]
  rfl
/-- In the digits' loop. -/
structure XI (w : World) (l : List Nat) (i : Nat) (wr : World) : Prop where
  below : Below w.heap.size w wr
  b : Lib.IsBuilder 68 5 w.heap.size (w.heap.size + 1) (Lib.byteCells (hexL (l.take i))) wr
attribute [local irreducible] hx hexL
set_option maxHeartbeats 2000000 in
set_option maxRecDepth 100000 in
theorem digits_calls (w : World) (l : List Nat) (hl : l.length = 32) (hb : ∀ x ∈ l, x < 256) :
    Calls Tryd.prog 33 #[digV l] w fun e w' => e = .returned (.string ⟨(hexL l).toArray⟩) ∧ Below w.heap.size w w' := by
  unfold digV
  have hsz : (cells8 l).toArray.size = 32 := by rw [List.size_toArray, cells8_length, hl]
  go_enter Tryd.func33, Tryd.ntmps33
  go_wp2_with (refine wpList_load_row rfl 24 (.tmp 1) rfl w.heap.size rfl 24 (cells8 l).toArray (0, 0) (.array 32 5) (by rw [Below.heap_alloc _ _ _ (by simp)]; exact alloc_new w _ _ rfl) und24 rfl (digV_size _ hl) ?_)
  go_loopg [7] 32 (fun k v7 wr => ∃ i : Nat, v7 = .int .i64 i ∧ i ≤ 32 ∧ XI w l i wr ∧ k = 32 - i)
  case atStart =>
    refine ⟨0, rfl, by omega, ⟨((Below.refl _ _).alloc (Nat.le_refl _) _).alloc (by simp) _, .inl ⟨Nat.le_succ _, .slice none 0 0, ?_, ?_, by simp [Value.ownBlock]⟩⟩, rfl⟩
    · exact alloc_new _ _ _ (by simp)
    · unfold hexL
      exact World.ownsRow_nil _ _ _ _
  case round =>
    obtain ⟨i, rfl, hi, X, rfl⟩ := hrel
    by_cases hi32 : i < 32
    · obtain ⟨c, hc⟩ : ∃ c, c = fB l i := ⟨_, rfl⟩
      have hcb : c < 256 := by rw [hc]; exact fB_lt l hb i
      have hix := index24 (cells8 l).toArray hsz i _ (by rw [List.getElem?_toArray]; exact cells8_get l i (by omega))
      rw [← hc] at hix
      have hsn := hexL_snoc l i (by omega)
      rw [← hc] at hsn
      have HS := Lib.hid hsn
      have hle : (hexL (l.take i)).length ≤ 64 := by rw [hexL_length, List.length_take]; omega
      clear hsn hc
      obtain ⟨a, ha⟩ : ∃ a, a = c / 16 := ⟨_, rfl⟩
      obtain ⟨b, hb'⟩ : ∃ b, b = c % 16 := ⟨_, rfl⟩
      rw [← ha, ← hb'] at HS
      have ha16 : a < 16 := by omega
      have hb16 : b < 16 := by omega
      have t1 : Int.tdiv (c : Int) 16 = (a : Int) := by rw [Int.tdiv_eq_ediv_of_nonneg (by omega)]; omega
      have t2 : Int.tmod (c : Int) 16 = (b : Int) := by rw [Int.tmod_eq_emod_of_nonneg (by omega)]; omega
      have t3 : (c : Int) / 16 = (a : Int) := by omega
      have t4 : (c : Int) % 16 = (b : Int) := by omega
      have t5 : (a : Int) % 256 = (a : Int) := by omega
      have t6 : (b : Int) % 256 = (b : Int) := by omega
      have x1 := index_hex a ha16
      have x2 := index_hex b hb16
      clear ha hb' ha16 hb16 hcb
      go_wp2_with (first
        | (go_at_call_of 38 (Value.int .u8 ((hx a).toNat : Int)); refine (Bld.writeByte w.heap.size (w.heap.size + 1) _ ((hx a).toNat : Int) wr X.b (by rw [Lib.byteCells_length]; omega) X.below.size).mono ?_; rintro e w2 ⟨rfl, hb2, hB2⟩; have hB2' := X.below.trans hB2; rw [byteCells_snoc] at hb2)
        | (go_at_call 38; refine (Bld.writeByte w.heap.size (w.heap.size + 1) _ ((hx b).toNat : Int) w2 (.inr hb2) (by rw [Lib.byteCells_length, List.length_append, List.length_singleton]; omega) hB2'.size).mono ?_; rintro e w3 ⟨rfl, hb3, hB3⟩; rw [byteCells_snoc] at hb3))
      have X2 : XI w l (i + 1) w3 := ⟨hB2'.trans hB3, .inr (by rw [HS.out]; exact hb3)⟩
      clear x1 x2 t1 t2 t3 t4 t5 t6
      go_roundg (32 - (i + 1))
      case measure => omega
      case rel => exact ⟨i + 1, by simp, by omega, X2, rfl⟩
    · have h32 : i = 32 := by omega
      subst h32
      have hX := X.b
      rw [List.take_of_length_le (by omega)] at hX
      go_wp2_with (go_at_call 39; refine (Bld.string w.heap.size (w.heap.size + 1) (hexL l) wr hX (fun e => by have := hexL_length l; rw [e, hl] at this; cases this)).mono ?_; rintro e w2 ⟨rfl, hB2⟩)
      go_ret
      exact ⟨rfl, X.below.trans hB2⟩
end Go.Proofs.YtegjphfkkafomaaDoor.Sha
/- A digest's text, by the program and by the reference: the walks. -/
namespace Go.Proofs.YtegjphfkkafomaaDoor.Sha
open Go.RowKit Go.Proofs Go.Proofs.YtegjphfkkafomaaDoor.Q Go.Proofs.YtegjphfkkafomaaDoorW.PrintWords Go.Proofs.YtegjphfkkafomaaDoorW.PrintLast Go.Proofs.YtegjphfkkafomaaDoorW.PrintMore

def preS : ByteArray := { data := #[115, 104, 97, 50, 53, 54, 58] }
/-- What a text is, behind so many bytes. -/
def textS (l : List Nat) : ByteArray := preS ++ ⟨(hexL l).toArray⟩
theorem textS_size (l : List Nat) : (textS l).size = 7 + 2 * l.length := by
  unfold textS
  rw [ByteArray.size_append]
  show 7 + (hexL l).toArray.size = _
  rw [List.size_toArray, hexL_length]
theorem textS_snoc (l : List Nat) (i : Nat) (h : i < l.length) : textS (l.take i) ++ ⟨#[hx (fB l i / 16)]⟩ ++ ⟨#[hx (fB l i % 16)]⟩ = textS (l.take (i + 1)) := by
  unfold textS
  rw [hexL_snoc l i h]
  apply ByteArray.ext
  simp
theorem load_box (w : World) (cs : Array Value) (o : Obj) (t : TypeId) : ((w.alloc (.cells cs t (0, 0))).alloc o).heap[w.heap.size]? = some (.cells cs t (0, 0)) := by
  rw [Below.heap_alloc _ _ _ (by simp)]
  exact alloc_new w _ _ rfl
attribute [local irreducible] hx hexL
set_option maxHeartbeats 1000000 in
set_option maxRecDepth 100000 in
theorem text_calls (w : World) (l : List Nat) (hl : l.length = 32) (hb : ∀ x ∈ l, x < 256) :
    Calls Tryd.prog 29 #[digV l] w fun e w' => e = .returned (.string (textS l)) ∧ Below w.heap.size w w' := by
  have hq : ∀ w, (Op.stringOp .add { data := #[115, 104, 97, 50, 53, 54, 58] } ⟨(hexL l).toArray⟩).run Tryd.prog w = .ok (.string (textS l)) w := fun w => by
    refine run_string_add_sum w _ _ ?_
    show 7 + (hexL l).toArray.size ≤ _
    rw [List.size_toArray, hexL_length]
    omega
  have hB0 : Below w.heap.size w (w.alloc (.cells (cells8 l).toArray 24 (0, 0))) := (Below.refl _ _).alloc (Nat.le_refl _) _
  unfold digV
  go_enter Tryd.func29, Tryd.ntmps29
  go_wp2_with (first
    | (refine wpList_load_row rfl 24 (.tmp 1) rfl w.heap.size rfl 24 (cells8 l).toArray (0, 0) (.array 32 5) (alloc_new w _ _ rfl) und24 rfl (digV_size _ hl) ?_)
    | (go_at_call 33; refine (digits_calls _ l hl hb).mono ?_; rintro e w2 ⟨rfl, hB2⟩))
  go_ret
  exact ⟨rfl, hB0.trans (hB2.mono hB0.size)⟩

theorem slice_hex : ∀ n : Nat, n < 16 → ∀ w : World, (Instr.slice 9 (.string { data := #[48, 49, 50, 51, 52, 53, 54, 55, 56, 57, 97, 98, 99, 100, 101, 102] }) (some (.int .u8 (n : Int))) (some (.int .u8 ((n : Int) + 1))) none).run Tryd.prog w = .ok (.string ⟨#[hx n]⟩) w
  | 0, _, _ => by kernel_rfl
  | 1, _, _ => by kernel_rfl
  | 2, _, _ => by kernel_rfl
  | 3, _, _ => by kernel_rfl
  | 4, _, _ => by kernel_rfl
  | 5, _, _ => by kernel_rfl
  | 6, _, _ => by kernel_rfl
  | 7, _, _ => by kernel_rfl
  | 8, _, _ => by kernel_rfl
  | 9, _, _ => by kernel_rfl
  | 10, _, _ => by kernel_rfl
  | 11, _, _ => by kernel_rfl
  | 12, _, _ => by kernel_rfl
  | 13, _, _ => by kernel_rfl
  | 14, _, _ => by kernel_rfl
  | 15, _, _ => by kernel_rfl
  | _ + 16, h, _ => by omega
theorem digit_calls (w : World) (n : Nat) (h : n < 16) : Calls Tryd.prog 34 #[.int .u8 (n : Int)] w fun e w' => e = .returned (.string ⟨#[hx n]⟩) ∧ w' = w := by
  have h1 := slice_hex n h
  have h2 : ((n : Int) + 1) % 256 = (n : Int) + 1 := by omega
  have h3 : IntKind.u8.wrap ((n : Int) + 1) = (n : Int) + 1 := by rw [IntKind.wrap_u8]; omega
  go_enter Tryd.func34, Tryd.ntmps34
  go_wp2
  go_ret
  exact ⟨rfl, rfl⟩

/-- In the reference's text. -/
structure YI (w : World) (l : List Nat) (wr : World) : Prop where
  below : Below w.heap.size w wr
  d : wr.heap[w.heap.size]? = some (.cells (cells8 l).toArray 24 (0, 0))
theorem YI.drewN {w wr : World} {l : List Nat} (h : YI w l wr) (n : Nat) : YI w l (wr.drewN n) := ⟨pw_below_drewN h.below n, h.d⟩
attribute [local irreducible] textS
set_option maxHeartbeats 2000000 in
set_option maxRecDepth 100000 in
theorem refText_calls (w : World) (l : List Nat) (hl : l.length = 32) (hb : ∀ x ∈ l, x < 256) :
    Calls Tryd.prog 30 #[digV l] w fun e w' => e = .returned (.string (textS l)) ∧ Below w.heap.size w w' := by
  unfold digV
  go_enter Tryd.func30, Tryd.ntmps30
  go_wp2
  go_loopg [3, 4] 32 (fun k v3 v4 wr => ∃ i : Nat, v3 = .string (textS (l.take i)) ∧ v4 = .int .i64 i ∧ i ≤ 32 ∧ YI w l wr ∧ k = 32 - i)
  case atStart =>
    refine ⟨0, ?_, rfl, by omega, ⟨(Below.refl _ _).alloc (Nat.le_refl _) _, alloc_new w _ _ rfl⟩, rfl⟩
    kernel_rfl
  case round =>
    obtain ⟨i, rfl, rfl, hi, Y, rfl⟩ := hrel
    by_cases hi32 : i < 32
    · have hsn := textS_snoc l i (by omega)
      have hsz := textS_size (l.take i)
      rw [List.length_take] at hsz
      have hc : wr.cell? ⟨w.heap.size, i, none⟩ = some (.int .u8 ((fB l i : Nat) : Int)) := by
        rw [block_cell Y.d, List.getElem?_toArray]
        exact cells8_get l i (by omega)
      obtain ⟨c, hc'⟩ : ∃ c, c = fB l i := ⟨_, rfl⟩
      have hcb : c < 256 := by rw [hc']; exact fB_lt l hb i
      rw [← hc'] at hsn hc
      clear hc'
      obtain ⟨a, ha⟩ : ∃ a, a = c / 16 := ⟨_, rfl⟩
      obtain ⟨b, hb'⟩ : ∃ b, b = c % 16 := ⟨_, rfl⟩
      rw [← ha, ← hb'] at hsn
      have ha16 : a < 16 := by omega
      have hb16 : b < 16 := by omega
      have t1 : Int.tdiv (c : Int) 16 = (a : Int) := by rw [Int.tdiv_eq_ediv_of_nonneg (by omega)]; omega
      have t2 : Int.tmod (c : Int) 16 = (b : Int) := by rw [Int.tmod_eq_emod_of_nonneg (by omega)]; omega
      have t3 : (c : Int) / 16 = (a : Int) := by omega
      have t4 : (c : Int) % 16 = (b : Int) := by omega
      have t5 : (a : Int) % 256 = (a : Int) := by omega
      have t6 : (b : Int) % 256 = (b : Int) := by omega
      have t7 : ((i : Int)).toNat = i := by omega
      obtain ⟨s0, hs0⟩ : ∃ s, s = textS (l.take i) := ⟨_, rfl⟩
      obtain ⟨s1, hs1⟩ : ∃ s, s = s0 ++ (⟨#[hx a]⟩ : ByteArray) := ⟨_, rfl⟩
      obtain ⟨s2, hs2⟩ : ∃ s, s = s1 ++ (⟨#[hx b]⟩ : ByteArray) := ⟨_, rfl⟩
      have z0 : s0.size ≤ 100 := by rw [hs0]; omega
      have z1 : s1.size = s0.size + 1 := by rw [hs1, ByteArray.size_append]; rfl
      have q1 : ∀ w, (Op.stringOp .add s0 ⟨#[hx a]⟩).run Tryd.prog w = .ok (.string s1) w := fun w => by
        rw [hs1]
        exact run_string_add_sum w _ _ (by show s0.size + 1 ≤ _; omega)
      have q2 : ∀ w, (Op.stringOp .add s1 ⟨#[hx b]⟩).run Tryd.prog w = .ok (.string s2) w := fun w => by
        rw [hs2]
        exact run_string_add_sum w _ _ (by show s1.size + 1 ≤ _; omega)
      have hend : s2 = textS (l.take (i + 1)) := by rw [hs2, hs1, hs0]; exact hsn
      rw [← hs0]
      clear hsn hs0 hs1 hs2 z0 z1 hsz ha hb' hcb
      have HE := Lib.hid hend
      clear hend
      go_wp2
      go_quiet ((first | (go_at_call_of 34 (Value.int .u8 (a : Int)); exact Calls.quiet_of_same (digit_calls _ a ha16)) | (go_at_call 34; exact Calls.quiet_of_same (digit_calls _ b hb16))))
      go_wp2
      clear t1 t2 t3 t4 t5 t6
      go_roundg (32 - (i + 1))
      case measure => omega
      case rel => exact ⟨i + 1, by rw [HE.out], by simp, by omega, Y.drewN _, rfl⟩
    · have h32 : i = 32 := by omega
      subst h32
      go_wp2
      go_ret
      exact ⟨by first | rfl | (rw [List.take_of_length_le (by omega)]; rfl), Y.below⟩
end Go.Proofs.YtegjphfkkafomaaDoor.Sha
/- Two hashers at once. -/
namespace Go.Proofs.YtegjphfkkafomaaDoor.Sha
open Go.RowKit Go.Proofs Go.Proofs.YtegjphfkkafomaaDoor.Q Go.Proofs.YtegjphfkkafomaaDoorW.PrintWords Go.Proofs.YtegjphfkkafomaaDoorW.PrintLast Go.Proofs.YtegjphfkkafomaaDoorW.PrintMore

/-- One hasher of the call's own. -/
structure HI (w : World) (p : Nat) (u : Value) (l : List Nat) (z : Int) (w' : World) : Prop where
  below : Below w.heap.size w w'
  laid : Laid w'
  h : HAt w' p u l z
  hp : w.heap.size ≤ p
  ub : ∀ g, u.ownBlock = some g → w.heap.size ≤ g
theorem HI.keepB {w w' w'' : World} {p : Nat} {u : Value} {l : List Nat} {z : Int} (H : HI w p u l z w') (hB : Below w'.heap.size w' w'') : HI w p u l z w'' :=
  ⟨H.below.trans (hB.mono H.below.size), H.laid.of_below hB H.laid.lt, H.h.keepB hB, H.hp, H.ub⟩
theorem HI.write {w w' w'' : World} {p : Nat} {u u' : Value} {l l' : List Nat} {z z' : Int} (J : HI w p u l z w') (hlt : 1 < w.heap.size) (H : HAt w'' p u' l' z') (hf : ∀ g, u'.ownBlock = some g → w'.heap.size ≤ g) (ho : Only p u w' w'') : HI w p u' l' z' w'' := by
  have hp := J.hp
  have hs := J.below.size
  exact ⟨J.below.trans (ho.below hs hp J.ub), J.laid.of (ho.block 0 (by omega) (by omega) (fun e => by have := J.ub 0 e; omega)) (ho.block 1 (by omega) (by omega) (fun e => by have := J.ub 1 e; omega)), H, hp, fun g hg => by have := hf g hg; omega⟩
/-- Two hashers of the call's own, that share nothing. -/
structure JI (w : World) (p : Nat) (u : Value) (l : List Nat) (z : Int) (q : Nat) (v : Value) (m : List Nat) (y : Int) (w' : World) : Prop where
  below : Below w.heap.size w w'
  laid : Laid w'
  h : HAt w' p u l z
  c : HAt w' q v m y
  hp : w.heap.size ≤ p
  hq : w.heap.size ≤ q
  pq : p ≠ q
  uq : u.ownBlock ≠ some q
  vp : v.ownBlock ≠ some p
  uv : ∀ g, v.ownBlock = some g → u.ownBlock ≠ some g
  ub : ∀ g, u.ownBlock = some g → w.heap.size ≤ g
  vb : ∀ g, v.ownBlock = some g → w.heap.size ≤ g
theorem JI.swap {w w' : World} {p q : Nat} {u v : Value} {l m : List Nat} {z y : Int} (J : JI w p u l z q v m y w') : JI w q v m y p u l z w' :=
  ⟨J.below, J.laid, J.c, J.h, J.hq, J.hp, J.pq.symm, J.vp, J.uq, fun g h1 h2 => J.uv g h2 h1, J.vb, J.ub⟩
theorem JI.left {w w' : World} {p q : Nat} {u v : Value} {l m : List Nat} {z y : Int} (J : JI w p u l z q v m y w') : HI w p u l z w' := ⟨J.below, J.laid, J.h, J.hp, J.ub⟩
theorem JI.keepB {w w' w'' : World} {p q : Nat} {u v : Value} {l m : List Nat} {z y : Int} (J : JI w p u l z q v m y w') (hB : Below w'.heap.size w' w'') : JI w p u l z q v m y w'' :=
  ⟨J.below.trans (hB.mono J.below.size), J.laid.of_below hB J.laid.lt, J.h.keepB hB, J.c.keepB hB, J.hp, J.hq, J.pq, J.uq, J.vp, J.uv, J.ub, J.vb⟩
theorem JI.write {w w' w'' : World} {p q : Nat} {u v u' : Value} {l m l' : List Nat} {z y z' : Int} (J : JI w p u l z q v m y w') (hlt : 1 < w.heap.size) (H : HAt w'' p u' l' z') (hf : ∀ g, u'.ownBlock = some g → w'.heap.size ≤ g) (ho : Only p u w' w'') : JI w p u' l' z' q v m y w'' := by
  have L := J.left.write hlt H hf ho
  have hq := J.c.lt
  exact ⟨L.below, L.laid, H, J.c.keep ho J.pq.symm J.uq J.vp J.uv, J.hp, J.hq, J.pq, fun e => by have := hf q e; omega, J.vp, fun g hg e => by have := hf g e; have := (J.c.own.lt g hg).2; omega, L.ub, J.vb⟩
theorem HI.copy {w w' w'' : World} {p : Nat} {u v : Value} {l : List Nat} {z : Int} (H : HI w p u l z w') (C : HAt w'' w'.heap.size v l z) (hf : ∀ g, v.ownBlock = some g → w'.heap.size < g) (hB : Below w'.heap.size w' w'') : JI w p u l z w'.heap.size v l z w'' := by
  have L := H.keepB hB
  have hp := H.h.lt
  have hs := H.below.size
  exact ⟨L.below, L.laid, L.h, C, H.hp, hs, by omega, fun e => by have := (H.h.own.lt _ e).2; omega, fun e => by have := hf _ e; omega, fun g hg e => by have := hf g hg; have := (H.h.own.lt g e).2; omega, H.ub, fun g hg => by have := hf g hg; omega⟩
theorem HI.of_new {w w' : World} {v : Value} {l : List Nat} {z : Int} (hL : Laid w) (H : HAt w' w.heap.size v l z) (hv : v.ownBlock = none) (hB : Below w.heap.size w w') : HI w w.heap.size v l z w' :=
  ⟨hB, hL.of_below hB hL.lt, H, Nat.le_refl _, fun g hg => by rw [hv] at hg; cases hg⟩

theorem byN_extract (s : ByteArray) (a b : Nat) : byN (s.extract a b) = ((byN s).take b).drop a := by
  unfold byN
  rw [ByteArray.data_extract, Array.toList_extract, List.extract_eq_drop_take', List.map_drop, List.map_take]
theorem byN_parts (s : ByteArray) (k : Nat) : byN (s.extract 0 k) ++ byN (s.extract k s.size) = byN s := by
  rw [byN_extract, byN_extract, List.drop_zero, List.take_of_length_le (i := s.size) (l := byN s) (by rw [byN_length]; exact Nat.le_refl _), List.take_append_drop]
end Go.Proofs.YtegjphfkkafomaaDoor.Sha
/- ShaApart: the walk. -/
namespace Go.Proofs.YtegjphfkkafomaaDoor.Sha
open Go.RowKit Go.Proofs Go.Proofs.YtegjphfkkafomaaDoor.Q Go.Proofs.YtegjphfkkafomaaDoorW.PrintWords Go.Proofs.YtegjphfkkafomaaDoorW.PrintLast Go.Proofs.YtegjphfkkafomaaDoorW.PrintMore

theorem bytesRow_at (s : ByteArray) (c j : Nat) (h : j < s.size) : (bytesRow s c)[j]? = some (.int .u8 ((s.data[j]'h).toNat : Int)) := by
  have h1 : j < (s.data.map (fun b => Value.int .u8 b.toNat)).size := by rw [Array.size_map]; exact h
  unfold bytesRow
  rw [Array.getElem?_append_left h1, Array.getElem?_map, Array.getElem?_eq_getElem h]
  rfl
/-- The text with one byte turned. -/
def turned (s : ByteArray) (k : Nat) (x : UInt8) : ByteArray := ⟨(s.data.toList.set k x).toArray⟩
theorem turned_size (s : ByteArray) (k : Nat) (x : UInt8) : (turned s k x).size = s.size := by
  show (s.data.toList.set k x).toArray.size = s.data.size
  simp
theorem turned_back (s : ByteArray) (k c cap : Nat) (x : UInt8) (B : Nat) (t : TypeId) (fr : Nat × Nat) (w : World) (h : w.heap[B]? = some (.cells ((bytesRow s c).setIfInBounds k (.int .u8 (x.toNat : Int))) t fr)) :
    (convert 37 9 (.slice (some ⟨B, 0, none⟩) s.size cap)).run Tryd.prog w = .ok (.string (turned s k x)) w := by
  have hl : (s.data.toList.set k x).length = s.size := by simp
  have := run_convert_bytes_back (P := Tryd.prog) w 37 9 5 ⟨B, 0, none⟩ cap (s.data.toList.set k x) Tryd.underlying37 Tryd.underlying5 Tryd.underlying9 (fun j hj => by
    have hj1 : j < s.size := by omega
    rw [add_zero, block_cell h]
    by_cases e : k = j
    · subst e
      have hb : k < (bytesRow s c).size := by
        obtain ⟨h1, _⟩ := Array.getElem?_eq_some_iff.1 (bytesRow_at s c k hj1)
        exact h1
      rw [Array.getElem?_setIfInBounds_self_of_lt hb]
      simp
    · rw [Array.getElem?_setIfInBounds_ne e, bytesRow_at s c j hj1]
      simp [e])
  rw [hl] at this
  exact this
/-- Two hashers, and bytes. -/
structure KI (w : World) (p : Nat) (u : Value) (l : List Nat) (z : Int) (q : Nat) (v : Value) (m : List Nat) (y : Int) (B : Nat) (cs : Array Value) (fr : Nat × Nat) (w' : World) : Prop where
  j : JI w p u l z q v m y w'
  b : w'.heap[B]? = some (.cells cs 5 fr)
theorem KI.keepB {w w' w'' : World} {p q B : Nat} {u v : Value} {l m : List Nat} {z y : Int} {cs : Array Value} {fr : Nat × Nat} (K : KI w p u l z q v m y B cs fr w') (hB : Below w'.heap.size w' w'') : KI w p u l z q v m y B cs fr w'' :=
  ⟨K.j.keepB hB, by rw [hB.block _ (lt_of_block K.b)]; exact K.b⟩
theorem u8_range (a b : Int) (h1 : 0 ≤ a) (h2 : a < 256) (h3 : 0 ≤ b) (h4 : b < 256) : ∃ x : UInt8, Go.bits .xor .u8 a b = (x.toNat : Int) := by
  rw [u8_xor a b h1 h2 h3 h4]
  have hx : a.toNat ^^^ b.toNat < 2 ^ 8 := Nat.xor_lt_two_pow (by omega) (by omega)
  exact ⟨UInt8.ofNat (a.toNat ^^^ b.toNat), by rw [UInt8.toNat_ofNat_of_lt' (by omega)]⟩
/-- The copy takes more, behind bytes of the call's own. -/
theorem apart_write {w w5 w6 : World} {p q : Nat} {u v : Value} {l m : List Nat} {z : Int} {y : Nat} {cs : Array Value} {fr : Nat × Nat} (J : JI w p u l z q v m y w5) (s : ByteArray) (hlt : 1 < w.heap.size) (hs : s.size ≤ 1000000000) (hy : y ≤ 1000000000000)
    (hB : Below w5.heap.size w5 w6) (hb : w6.heap[w5.heap.size]? = some (.cells cs 5 fr)) :
    Calls Tryd.prog 14 #[.pointer (some ⟨q, 0, none⟩), .string s] w6 fun e w' => e = .returned (.int .i64 s.size) ∧ ∃ v', KI w p u l z q v' (m ++ byN s) ((y + s.size : Nat) : Int) w5.heap.size cs fr w' := by
  have J6 := J.keepB hB
  refine (write_calls w6 q v m y s J6.laid J6.c hs hy).mono ?_
  rintro e w7 ⟨rfl, v7, H7, hf7, ho7⟩
  refine ⟨rfl, v7, (J6.swap.write hlt H7 hf7 ho7).swap, ?_⟩
  have hq := J.c.lt
  rw [ho7.block w5.heap.size (lt_of_block hb) (by omega) (fun e => by have := (J.c.own.lt _ e).2; omega)]
  exact hb
theorem digV_agg (l : List Nat) : digV l = .agg (cells8 l).toArray := rfl
theorem wpQuiet_skip {P : Program} {ops : Array Oper} {C : World → Prop} {Q : Act → Prop} {a : Act} {o : Oper} {rest : List Oper} (hgd : Region.wanted o (yielded ops a.tmps) = false) (h : wpQuiet P ops C Q rest (a.put o.dst undef)) : wpQuiet P ops C Q (o :: rest) a := by
  unfold wpQuiet
  rw [if_neg (by rw [hgd]; decide)]
  exact h
theorem row_frozen (w : World) (cs : Array Value) (k : Nat) (hk : k < cs.size) : (w.alloc (.cells cs 5 (cs.size, cs.size + 1))).frozen? ⟨w.heap.size, k, none⟩ = false := by
  simp only [World.frozen?, alloc_new w _ _ rfl]
  simp
  omega
attribute [local irreducible] sumN digV byN turned Go.wpQuiet
set_option maxHeartbeats 4000000 in
set_option maxRecDepth 100000 in
theorem shaApart_calls (w : World) (s : ByteArray) (a1 a2 : Int) (y1 : (Lit.int .u16 a1).wf = true) (y2 : (Lit.int .u8 a2).wf = true) (hL : Laid w) :
    Calls Tryd.prog 6 #[.string s, .int .u16 a1, .int .u8 a2] w fun e w' => e = .returned (.bool true) ∧ Below w.heap.size w w' := by
  have hlt := hL.lt
  have b1 : 0 ≤ a1 ∧ a1 ≤ 65535 := by simpa [Lit.wf, IntKind.min, IntKind.max, IntKind.signed, IntKind.bits] using y1
  have b2 : 0 ≤ a2 ∧ a2 ≤ 255 := by simpa [Lit.wf, IntKind.min, IntKind.max, IntKind.signed, IntKind.bits] using y2
  clear y1 y2
  obtain ⟨b10, b11⟩ := b1
  obtain ⟨b20, b21⟩ := b2
  have HL := Lib.hid hL
  clear hL
  have out : ∀ (g : ¬ (0 < s.size ∧ s.size ≤ 500 ∧ a2 ≠ 0)), Calls Tryd.prog 6 #[.string s, .int .u16 a1, .int .u8 a2] w fun e w' => e = .returned (.bool true) ∧ Below w.heap.size w w' := by
    intro g
    by_cases g0 : s.size = 0
    · go_enter Tryd.func6, Tryd.ntmps6
      go_wp2_with (go_at_call 9; refine (hashed_calls w HL.out).mono ?_; rintro e w2 ⟨rfl, hB⟩)
      go_ret
      exact ⟨rfl, hB⟩
    · by_cases g1 : (500 : Int) < (s.size : Int)
      · go_enter Tryd.func6, Tryd.ntmps6
        go_wp2_with (go_at_call 9; refine (hashed_calls w HL.out).mono ?_; rintro e w2 ⟨rfl, hB⟩)
        go_ret
        exact ⟨rfl, hB⟩
      · have g2 : a2 = 0 := by omega
        subst g2
        go_enter Tryd.func6, Tryd.ntmps6
        go_wp2_with (go_at_call 9; refine (hashed_calls w HL.out).mono ?_; rintro e w2 ⟨rfl, hB⟩)
        go_ret
        exact ⟨rfl, hB⟩
  by_cases g : 0 < s.size ∧ s.size ≤ 500 ∧ a2 ≠ 0
  case neg => exact out g
  clear out
  obtain ⟨g0, g1, g2⟩ := g
  have e1 : IntKind.i64.wrap a1 = a1 := by rw [IntKind.wrap_i64]; omega
  obtain ⟨k, hk⟩ : ∃ k : Nat, Int.tmod a1 (s.size : Int) = (k : Int) ∧ k < s.size := by
    rw [Int.tmod_eq_emod_of_nonneg b10]
    exact ⟨(a1 % (s.size : Int)).toNat, by have := Int.emod_nonneg a1 (b := (s.size : Int)) (by omega); omega, by have := Int.emod_lt_of_pos a1 (b := (s.size : Int)) (by omega); have := Int.emod_nonneg a1 (b := (s.size : Int)) (by omega); omega⟩
  obtain ⟨hk, hkn⟩ := hk
  have e2 : IntKind.i64.wrap (k : Int) = (k : Int) := by rw [IntKind.wrap_i64]; omega
  have e3 : IntKind.i64.wrap ((k : Int) + 1) = (k : Int) + 1 := by rw [IntKind.wrap_i64]; omega
  have e4 : ((k : Int)).toNat = k := by omega
  have e5 : IntKind.i64.wrap ((s.size : Int) - 1) = (s.size : Int) - 1 := by rw [IntKind.wrap_i64]; omega
  have e6 : ¬ (s.size : Int) = 0 := by omega
  have e7 : ¬ (500 : Int) < (s.size : Int) := by omega
  have e8 : (k : Int) < (s.size : Int) := by omega
  have e9 : ¬ s.size = 0 := by omega
  have e10 : ((s.size : Int) == 0) = false := beq_eq_false_iff_ne.mpr e6
  have e11 : (a2 == 0) = false := beq_eq_false_iff_ne.mpr g2
  have hs1 : s.size ≤ 1000000000 := by omega
  obtain ⟨sa, hsa⟩ : ∃ sa, sa = s.extract 0 k := ⟨_, rfl⟩
  obtain ⟨sb, hsb⟩ : ∃ sb, sb = s.extract k s.size := ⟨_, rfl⟩
  obtain ⟨sc, hsc⟩ : ∃ sc, sc = s.extract (k + 1) s.size := ⟨_, rfl⟩
  have za : sa.size = k := by rw [hsa, ByteArray.size_extract]; omega
  have zb : sb.size = s.size - k := by rw [hsb, ByteArray.size_extract]; omega
  have zc : sc.size = s.size - (k + 1) := by rw [hsc, ByteArray.size_extract]; omega
  have q1 : ∀ w, (Instr.slice 9 (.string s) none (some (.int .i64 (k : Int))) none).run Tryd.prog w = .ok (.string sa) w := fun w => by
    rw [hsa]
    have := run_slice_string_h (P := Tryd.prog) w 9 s Tryd.underlying9 .i64 (k : Int) (by omega) (by omega)
    rwa [e4] at this
  have q2 : ∀ w, (Instr.slice 9 (.string s) (some (.int .i64 (k : Int))) none none).run Tryd.prog w = .ok (.string sb) w := fun w => by
    rw [hsb]
    have := run_slice_string_l (P := Tryd.prog) w 9 s Tryd.underlying9 .i64 (k : Int) (by omega) (by omega)
    rwa [e4] at this
  have q3 : ∀ w, (Instr.slice 9 (.string s) (some (.int .i64 ((k : Int) + 1))) none none).run Tryd.prog w = .ok (.string sc) w := fun w => by
    rw [hsc]
    have := run_slice_string_l (P := Tryd.prog) w 9 s Tryd.underlying9 .i64 ((k : Int) + 1) (by omega) (by omega)
    rwa [show ((k : Int) + 1).toNat = k + 1 from by omega] at this
  have hparts : byN sa ++ byN sb = byN s := by rw [hsa, hsb]; exact byN_parts s k
  obtain ⟨sd, hsd⟩ : ∃ sd, sd = sa ++ sc := ⟨_, rfl⟩
  have q4 : ∀ w, (Op.stringOp .add sa sc).run Tryd.prog w = .ok (.string sd) w := fun w => by
    rw [hsd]
    exact run_string_add_sum w sa sc (by omega)
  have zd : sd.size = s.size - 1 := by rw [hsd, ByteArray.size_append]; omega
  have hjoin : byN sd = byN sa ++ byN sc := by rw [hsd, byN_append]
  clear hsa hsb hsc hsd
  have hconv := fun w => run_bytes_of_string (P := Tryd.prog) w 9 37 5 s Tryd.underlying9 Tryd.underlying37 Tryd.underlying5
  obtain ⟨x, hx⟩ := u8_range ((s.data[k]'hkn).toNat : Int) a2 (by omega) (by have := (s.data[k]'hkn).toNat_lt; omega) b20 (by omega)
  have hback := fun c cap B t fr => turned_back s k c cap x B t fr
  have zt : (turned s k x).size = s.size := turned_size s k x
  have hbyte := fun c => bytesRow_at s c k hkn
  revert hback zt
  generalize turned s k x = st
  intro hback zt
  have HBK := Lib.hid hback
  have HBY := Lib.hid hbyte
  have HP := Lib.hid (And.intro za (And.intro zb (And.intro zc (And.intro zd (And.intro zt (And.intro hparts hjoin))))))
  clear hback hbyte za zb zc zd zt hparts hjoin
  go_enter Tryd.func6, Tryd.ntmps6
  go_wp2_with (first
    | (go_at_call 12; refine (new_calls w HL.out).mono ?_; rintro e w2 ⟨rfl, H2, hB2⟩; have I2 := HI.of_new HL.out H2 rfl hB2; clear H2 hB2)
    | (go_at_call 14; refine (write_calls w2 _ _ _ 0 sa I2.laid I2.h (by have := HP.out.1; omega) (by omega)).mono ?_; rintro e w3 ⟨rfl, u3, H3, hf3, ho3⟩; have I3 := I2.write hlt H3 hf3 ho3; clear H3 hf3 ho3 I2)
    | (go_at_call 13; refine (copy_calls w3 _ _ _ _ I3.h).mono ?_; rintro e w4 ⟨rfl, u4, H4, hf4, hB4⟩; have J4 := I3.copy H4 hf4 hB4; clear H4 hf4 hB4 I3)
    | (go_at_call 14; refine (write_calls w4 _ _ _ _ sb J4.laid J4.h (by have := HP.out.2.1; omega) (by have := HP.out.1; omega)).mono ?_; rintro e w5 ⟨rfl, u5, H5, hf5, ho5⟩; have J5 := J4.write hlt H5 hf5 ho5; clear H5 hf5 ho5 J4; have hcell := fun c fr => (block_cell (alloc_new w5 (.cells (bytesRow s c) 5 fr) _ rfl) k).trans (HBY.out c); have hfrz := fun c => row_frozen w5 (bytesRow s c) k (Array.getElem?_eq_some_iff.1 (HBY.out c)).1)
    | (go_at_call 14; refine (apart_write J5 sc hlt (by have := HP.out.2.2.1; omega) (by have := HP.out.1; omega) (((Below.refl _ w5).alloc (Nat.le_refl _) _).drew.setCell (Nat.le_refl _) _) (block_set (alloc_new w5 _ _ rfl) k _)).mono ?_; rintro e w7 ⟨rfl, v7, K7⟩; clear J5 hcell hfrz)
    | (go_at_call 11; refine (refOf_calls w7 s hs1).mono ?_; rintro e w8 ⟨rfl, hB8⟩; have K8 := K7.keepB hB8; clear K7 hB8)
    | (apply wpList_store_mid (ty := 24) (x := .tmp 11) (y := .tmp 61) (o := 0) (cells := (cells8 (sumN (byN s) s.size)).toArray); (case ho => exact rfl); (case hgd => exact rfl); (case hx => exact rfl); (case hy => exact digV_agg _); (case ht => exact there_32 (alloc_new _ _ _ rfl) rfl (sumN (byN s) s.size) (sumN_length _ _)); (case hi => exact digV_size _ (sumN_length _ _)); (case h1 => exact all_oneCell_toArray (cells8_one _))))
  have K9 := K8.keepB (setCells_below (g := w8.heap.size) (cells8 (sumN (byN s) s.size)) 0 _ _ _ (Nat.le_refl _) ((Below.refl _ w8).alloc (Nat.le_refl _) (.cells zero32 24 (0, 0))))
  have hD := setCells_whole (t := 24) (fr := (0, 0)) (cells8 (sumN (byN s) s.size)) (w8.alloc (.cells zero32 24 (0, 0))) zero32 (alloc_new w8 _ _ rfl) (by rw [cells8_length, sumN_length]; rfl)
  clear K8
  show Code.wp _ _ _ _ ((w8.alloc (.cells zero32 24 (0, 0))).setCells w8.heap.size 0 (cells8 (sumN (byN s) s.size)))
  generalize (w8.alloc (.cells zero32 24 (0, 0))).setCells w8.heap.size 0 (cells8 (sumN (byN s) s.size)) = w9 at K9 hD ⊢
  have hst : st.size ≤ 1000000000 := by have := HP.out.2.2.2.2.1; omega
  have hsd : sd.size ≤ 1000000000 := by have := HP.out.2.2.2.1; omega
  have hgd := guard_dig
  have hDr : ∀ d os, (Go.Sort.grow (redrawn w9 d) os).heap[w8.heap.size]? = some (.cells (cells8 (sumN (byN s) s.size)).toArray 24 (0, 0)) := fun d os => by rw [(below_regrown w9 d os).block _ (lt_of_block hD)]; exact hD
  have hcv := fun cap d os => HBK.out _ cap _ _ _ _ (K9.keepB (below_regrown w9 d os)).b
  have HK := Lib.hid K9
  have HD := Lib.hid hDr
  have HZ := Lib.hid (And.intro hst hsd)
  clear K9 hDr hD hst hsd
  by_cases c1 : sumN (byN s) s.size = sumN (byN st) st.size
  · have heq : ∀ w, (Go.binOp .eql 24 (digV (sumN (byN s) s.size)) (digV (sumN (byN st) st.size))).run Tryd.prog w = .ok (.bool true) w := by
      rw [← c1]
      exact eql_same _ (sumN_length _ _) (sumN_lt _ _)
    clear c1
    refine QT.wp_region_below_tail 17 (by kernel_rfl) (by kernel_rfl) ?_
    simp only [List.take_succ_cons, List.take_zero, List.drop_succ_cons, List.drop_zero]
    refine wpQuiet_load_rowG rfl 24 (.tmp 11) rfl w8.heap.size rfl 24 (cells8 (sumN (byN s) s.size)).toArray (0, 0) (.array 32 5) (by rintro _ ⟨p, rfl⟩; exact HD.out p.d p.os) und24 rfl (digV_size _ (sumN_length _ _)) (v := digV (sumN (byN s) s.size)) (digV_agg _) ?_
    quiet_step (fail)
    quiet_step (fail)
    quiet_step ((go_at_call 11; exact Calls.regrown_of (refOf_calls _ st HZ.out.1)))
    quiet_step (fail)
    quiet_step (fail)
    refine wpQuiet_skip (by kernel_rfl) ?_
    refine wpQuiet_skip (by kernel_rfl) ?_
    refine wpQuiet_skip (by kernel_rfl) ?_
    refine wpQuiet_skip (by kernel_rfl) ?_
    refine wpQuiet_skip (by kernel_rfl) ?_
    refine wpQuiet_skip (by kernel_rfl) ?_
    refine wpQuiet_skip (by kernel_rfl) ?_
    refine wpQuiet_skip (by kernel_rfl) ?_
    refine wpQuiet_skip (by kernel_rfl) ?_
    refine wpQuiet_skip (by kernel_rfl) ?_
    refine wpQuiet_skip (by kernel_rfl) ?_
    refine wpQuiet_nil ?_
    intro w10 hw'
    obtain ⟨pq, hw''⟩ := hw'
    have K := (HK.out).keepB (below_regrown w9 pq.d pq.os)
    rw [← hw''] at K
    clear hw''
    go_wp2_with (go_at_call 9; refine (hashed_calls w10 K.j.laid).mono ?_; rintro e w11 ⟨rfl, hB11⟩)
    go_ret
    exact ⟨rfl, (K.keepB hB11).j.below⟩
  · have hne : (sumN (byN s) s.size == sumN (byN st) st.size) = false := beq_eq_false_iff_ne.mpr c1
    have hne' : (sumN (byN st) st.size == sumN (byN s) s.size) = false := beq_eq_false_iff_ne.mpr (fun e => c1 e.symm)
    have heq : ∀ w, (Go.binOp .eql 24 (digV (sumN (byN s) s.size)) (digV (sumN (byN st) st.size))).run Tryd.prog w = .ok (.bool false) w := fun w => by
      rw [eql_dig _ _ (sumN_length _ _) (sumN_length _ _) (sumN_lt _ _) (sumN_lt _ _), hne]
    have hnq : ∀ w, (Go.binOp .neq 24 (digV (sumN (byN st) st.size)) (digV (sumN (byN s) s.size))).run Tryd.prog w = .ok (.bool true) w := fun w => by
      rw [neq_dig _ _ (sumN_length _ _) (sumN_length _ _) (sumN_lt _ _) (sumN_lt _ _), hne']
      rfl
    clear hne hne'
    by_cases c2 : sumN (byN s) s.size = sumN (byN sd) sd.size
    · have heq2 : ∀ w, (Go.binOp .eql 24 (digV (sumN (byN s) s.size)) (digV (sumN (byN sd) sd.size))).run Tryd.prog w = .ok (.bool true) w := by
        rw [← c2]
        exact eql_same _ (sumN_length _ _) (sumN_lt _ _)
      clear c2
      refine QT.wp_region_below_tail 17 (by kernel_rfl) (by kernel_rfl) ?_
      simp only [List.take_succ_cons, List.take_zero, List.drop_succ_cons, List.drop_zero]
      refine wpQuiet_load_rowG rfl 24 (.tmp 11) rfl w8.heap.size rfl 24 (cells8 (sumN (byN s) s.size)).toArray (0, 0) (.array 32 5) (by rintro _ ⟨p, rfl⟩; exact HD.out p.d p.os) und24 rfl (digV_size _ (sumN_length _ _)) (v := digV (sumN (byN s) s.size)) (digV_agg _) ?_
      quiet_step (fail)
      quiet_step (fail)
      quiet_step ((go_at_call 11; exact Calls.regrown_of (refOf_calls _ st HZ.out.1)))
      quiet_step (fail)
      quiet_step (fail)
      refine wpQuiet_load_rowG rfl 24 (.tmp 11) rfl w8.heap.size rfl 24 (cells8 (sumN (byN s) s.size)).toArray (0, 0) (.array 32 5) (by rintro _ ⟨p, rfl⟩; exact HD.out p.d p.os) und24 rfl (digV_size _ (sumN_length _ _)) (v := digV (sumN (byN s) s.size)) (digV_agg _) ?_
      quiet_step (fail)
      quiet_step (fail)
      quiet_step (fail)
      quiet_step (fail)
      quiet_step (fail)
      quiet_step (fail)
      quiet_step (fail)
      quiet_step (fail)
      quiet_step ((go_at_call 11; exact Calls.regrown_of (refOf_calls _ sd HZ.out.2)))
      quiet_step (fail)
      refine wpQuiet_nil ?_
      intro w10 hw'
      obtain ⟨pq, hw''⟩ := hw'
      have K := (HK.out).keepB (below_regrown w9 pq.d pq.os)
      rw [← hw''] at K
      clear hw''
      go_wp2_with (go_at_call 9; refine (hashed_calls w10 K.j.laid).mono ?_; rintro e w11 ⟨rfl, hB11⟩)
      go_ret
      exact ⟨rfl, (K.keepB hB11).j.below⟩
    · have hne : (sumN (byN s) s.size == sumN (byN sd) sd.size) = false := beq_eq_false_iff_ne.mpr c2
      have hne' : (sumN (byN sd) sd.size == sumN (byN s) s.size) = false := beq_eq_false_iff_ne.mpr (fun e => c2 e.symm)
      have heq2 : ∀ w, (Go.binOp .eql 24 (digV (sumN (byN s) s.size)) (digV (sumN (byN sd) sd.size))).run Tryd.prog w = .ok (.bool false) w := fun w => by
        rw [eql_dig _ _ (sumN_length _ _) (sumN_length _ _) (sumN_lt _ _) (sumN_lt _ _), hne]
      have hnq2 : ∀ w, (Go.binOp .neq 24 (digV (sumN (byN sd) sd.size)) (digV (sumN (byN s) s.size))).run Tryd.prog w = .ok (.bool true) w := fun w => by
        rw [neq_dig _ _ (sumN_length _ _) (sumN_length _ _) (sumN_lt _ _) (sumN_lt _ _), hne']
        rfl
      clear hne hne'
      refine QT.wp_region_below_tail 17 (by kernel_rfl) (by kernel_rfl) ?_
      simp only [List.take_succ_cons, List.take_zero, List.drop_succ_cons, List.drop_zero]
      refine wpQuiet_load_rowG rfl 24 (.tmp 11) rfl w8.heap.size rfl 24 (cells8 (sumN (byN s) s.size)).toArray (0, 0) (.array 32 5) (by rintro _ ⟨p, rfl⟩; exact HD.out p.d p.os) und24 rfl (digV_size _ (sumN_length _ _)) (v := digV (sumN (byN s) s.size)) (digV_agg _) ?_
      quiet_step (fail)
      quiet_step (fail)
      quiet_step ((go_at_call 11; exact Calls.regrown_of (refOf_calls _ st HZ.out.1)))
      quiet_step (fail)
      quiet_step (fail)
      refine wpQuiet_load_rowG rfl 24 (.tmp 11) rfl w8.heap.size rfl 24 (cells8 (sumN (byN s) s.size)).toArray (0, 0) (.array 32 5) (by rintro _ ⟨p, rfl⟩; exact HD.out p.d p.os) und24 rfl (digV_size _ (sumN_length _ _)) (v := digV (sumN (byN s) s.size)) (digV_agg _) ?_
      quiet_step (fail)
      quiet_step (fail)
      quiet_step (fail)
      quiet_step (fail)
      quiet_step (fail)
      quiet_step (fail)
      quiet_step (fail)
      quiet_step (fail)
      quiet_step ((go_at_call 11; exact Calls.regrown_of (refOf_calls _ sd HZ.out.2)))
      quiet_step (fail)
      refine wpQuiet_nil ?_
      intro w10 hw'
      obtain ⟨pq, hw''⟩ := hw'
      have K := (HK.out).keepB (below_regrown w9 pq.d pq.os)
      rw [← hw''] at K
      clear hw''
      have hsame := eql_same (sumN (byN s) s.size) (sumN_length _ _) (sumN_lt _ _)
      obtain ⟨za, zb, zc, zd, zt, hparts, hjoin⟩ := HP.out
      rw [show [] ++ byN sa ++ byN sb = byN s from hparts, show 0 + sa.size + sb.size = s.size from by omega, show [] ++ byN sa ++ byN sc = byN sd from hjoin.symm, show 0 + sa.size + sc.size = sd.size from by omega] at K
      have e12 : (sd.size : Int) = (s.size : Int) - 1 := by omega
      clear za zb zc zd zt hparts hjoin hcv
      have hcv2 := fun cap => HBK.out _ cap _ _ _ _ K.b
      go_wp2_with (first
        | (go_at_call_of 15 (Value.pointer (some ⟨w.heap.size, 0, none⟩)); refine (sum_calls _ _ _ _ _ K.j.laid K.j.h (by omega)).mono ?_; rintro e w1 ⟨rfl, hB⟩; replace K := K.keepB hB; clear hB)
        | (go_at_call_of 15 (Value.pointer (some ⟨w3.heap.size, 0, none⟩)); refine (sum_calls _ _ _ _ _ K.j.laid K.j.c (by have := HZ.out.2; omega)).mono ?_; rintro e w1 ⟨rfl, hB⟩; replace K := K.keepB hB; clear hB)
        | (go_at_call_of 10 (Value.string s); refine (of_calls _ s K.j.laid hs1).mono ?_; rintro e w1 ⟨rfl, hB⟩; replace K := K.keepB hB; clear hB; have hcv3 := fun cap => HBK.out _ cap _ _ _ _ K.b)
        | (go_at_call_of 10 (Value.string st); refine (of_calls _ st K.j.laid HZ.out.1).mono ?_; rintro e w1 ⟨rfl, hB⟩; replace K := K.keepB hB; clear hB)
        | (go_at_call 16; refine (size_calls _ _ _ _ _ K.j.c).mono ?_; rintro e w1 ⟨rfl, rfl⟩)
        | (go_at_call 9; refine (hashed_calls _ K.j.laid).mono ?_; rintro e w1 ⟨rfl, hB⟩; replace K := K.keepB hB; clear hB))
      go_ret
      exact ⟨rfl, K.j.below⟩
end Go.Proofs.YtegjphfkkafomaaDoor.Sha
/- The next chain ID: the program's walk and the reference's. -/
namespace Go.Proofs.YtegjphfkkafomaaDoor.Sha
open Go.RowKit Go.Proofs Go.Proofs.YtegjphfkkafomaaDoor.Q Go.Proofs.YtegjphfkkafomaaDoorW.PrintWords Go.Proofs.YtegjphfkkafomaaDoorW.PrintLast Go.Proofs.YtegjphfkkafomaaDoorW.PrintMore

/-- The text that the next chain ID is the hash of. -/
def joinS (p d : List Nat) : ByteArray := textS p ++ { data := #[32] } ++ textS d
def nextD (p d : List Nat) : List Nat := sumN (byN (joinS p d)) (joinS p d).size
theorem joinS_size (p d : List Nat) (hp : p.length = 32) (hd : d.length = 32) : (joinS p d).size = 143 := by
  unfold joinS
  rw [ByteArray.size_append, ByteArray.size_append, textS_size, textS_size, hp, hd]
  rfl
theorem nextD_length (p d : List Nat) : (nextD p d).length = 32 := sumN_length _ _
theorem nextD_lt (p d : List Nat) : ∀ x ∈ nextD p d, x < 256 := sumN_lt _ _

/-- What stands in the reference's Next: two digests, and room for one. -/
structure RI2 (w : World) (p d : List Nat) (wr : World) : Prop where
  below : Below w.heap.size w wr
  a : wr.heap[w.heap.size]? = some (.cells (cells8 p).toArray 24 (0, 0))
  b : wr.heap[w.heap.size + 1]? = some (.cells (cells8 d).toArray 24 (0, 0))
  o : wr.heap[w.heap.size + 1 + 1]? = some (.cells zero32 24 (0, 0))
theorem RI2.keepB {w w2 w3 : World} {p d : List Nat} (h : RI2 w p d w2) (hB : Below w2.heap.size w2 w3) : RI2 w p d w3 := by
  have lt : w.heap.size + 1 + 1 < w2.heap.size := lt_of_block h.o
  exact ⟨h.below.trans (hB.mono (by omega)), by rw [hB.block _ (by omega)]; exact h.a, by rw [hB.block _ (by omega)]; exact h.b, by rw [hB.block _ (by omega)]; exact h.o⟩
theorem RI2.start (w : World) (p d : List Nat) : RI2 w p d (((w.alloc (.cells (cells8 p).toArray 24 (0, 0))).alloc (.cells (cells8 d).toArray 24 (0, 0))).alloc (.cells zero32 24 (0, 0))) := by
  refine ⟨(((Below.refl _ _).alloc (Nat.le_refl _) _).alloc (by simp) _).alloc (by simp; omega) _, ?_, ?_, ?_⟩
  · rw [Below.heap_alloc _ _ _ (by simp; omega), Below.heap_alloc _ _ _ (by simp)]
    exact alloc_new w _ _ rfl
  · rw [Below.heap_alloc _ _ _ (by simp)]
    exact alloc_new _ _ _ (by simp)
  · exact alloc_new _ _ _ (by simp)
attribute [local irreducible] textS sumN byN digV Go.wpQuiet
set_option maxHeartbeats 2000000 in
set_option maxRecDepth 100000 in
theorem refNext_calls (w : World) (p d : List Nat) (hp : p.length = 32) (hd : d.length = 32) (bp : ∀ x ∈ p, x < 256) (bd : ∀ x ∈ d, x < 256) :
    Calls Tryd.prog 25 #[digV p, digV d] w fun e w' => e = .returned (digV (nextD p d)) ∧ Below w.heap.size w w' := by
  obtain ⟨tp, htp⟩ : ∃ t, t = textS p := ⟨_, rfl⟩
  obtain ⟨td, htd⟩ : ∃ t, t = textS d := ⟨_, rfl⟩
  obtain ⟨tm, htm⟩ : ∃ t, t = tp ++ { data := #[32] } := ⟨_, rfl⟩
  obtain ⟨tj, htj⟩ : ∃ t, t = tm ++ td := ⟨_, rfl⟩
  have zp : tp.size = 71 := by rw [htp, textS_size, hp]
  have zd : td.size = 71 := by rw [htd, textS_size, hd]
  have zm : tm.size = 72 := by rw [htm, ByteArray.size_append, zp]; rfl
  have zj : tj.size ≤ 1000000000 := by rw [htj, ByteArray.size_append]; omega
  have q1 : ∀ w, (Op.stringOp .add tp { data := #[32] }).run Tryd.prog w = .ok (.string tm) w := fun w => by
    rw [htm]
    exact run_string_add_sum w _ _ (by rw [zp]; decide)
  have q2 : ∀ w, (Op.stringOp .add tm td).run Tryd.prog w = .ok (.string tj) w := fun w => by
    rw [htj]
    exact run_string_add_sum w _ _ (by omega)
  have hj : tj = joinS p d := by rw [htj, htm, htp, htd]; rfl
  have HT : ∀ w, Calls Tryd.prog 30 #[digV p] w fun e w' => e = .returned (.string tp) ∧ Below w.heap.size w w' := fun w => by rw [htp]; exact refText_calls w p hp bp
  have HD : ∀ w, Calls Tryd.prog 30 #[digV d] w fun e w' => e = .returned (.string td) ∧ Below w.heap.size w w' := fun w => by rw [htd]; exact refText_calls w d hd bd
  have H1 := Lib.hid HT
  have H2 := Lib.hid HD
  have H3 := Lib.hid hj
  have S := RI2.start w p d
  have HS := Lib.hid S
  clear htp htd htm htj zp zd zm HT HD hj S
  rw [digV_agg p, digV_agg d]
  go_enter Tryd.func25, Tryd.ntmps25
  go_wp2
  show Code.wp _ _ _ _ (((w.alloc (.cells (cells8 p).toArray 24 (0, 0))).alloc (.cells (cells8 d).toArray 24 (0, 0))).alloc (.cells zero32 24 (0, 0)))
  have R := HS.out
  generalize ((w.alloc (.cells (cells8 p).toArray 24 (0, 0))).alloc (.cells (cells8 d).toArray 24 (0, 0))).alloc (.cells zero32 24 (0, 0)) = w2 at R ⊢
  refine QT.wp_region_below_tail 7 (by kernel_rfl) (by kernel_rfl) ?_
  simp only [List.take_succ_cons, List.take_zero, List.drop_succ_cons, List.drop_zero]
  refine wpQuiet_load_rowG rfl 24 (.tmp 2) rfl w.heap.size rfl 24 (cells8 p).toArray (0, 0) (.array 32 5) (by rintro _ ⟨q, rfl⟩; exact (R.keepB (below_regrown w2 q.d q.os)).a) und24 rfl (digV_size _ hp) (v := digV p) (digV_agg _) ?_
  quiet_step ((go_at_call 30; exact Calls.regrown_of (H1.out _)))
  quiet_step (fail)
  refine wpQuiet_load_rowG rfl 24 (.tmp 3) rfl (w.heap.size + 1) rfl 24 (cells8 d).toArray (0, 0) (.array 32 5) (by rintro _ ⟨q, rfl⟩; exact (R.keepB (below_regrown w2 q.d q.os)).b) und24 rfl (digV_size _ hd) (v := digV d) (digV_agg _) ?_
  quiet_step ((go_at_call 30; exact Calls.regrown_of (H2.out _)))
  quiet_step (fail)
  quiet_step ((go_at_call 11; exact Calls.regrown_of (refOf_calls _ tj zj)))
  refine wpQuiet_nil ?_
  intro w3 hw'
  obtain ⟨pq, hw''⟩ := hw'
  have R3 := R.keepB (below_regrown w2 pq.d pq.os)
  rw [← hw''] at R3
  clear hw'' R
  have hn : sumN (byN tj) tj.size = nextD p d := by rw [H3.out]; rfl
  rw [hn]
  refine wpList_store_mid rfl 24 (.tmp 4) (.tmp 11) rfl (w.heap.size + 1 + 1) 0 (cells8 (nextD p d)).toArray rfl (digV_agg _) (there_32 R3.o rfl (nextD p d) (nextD_length _ _)) (digV_size _ (nextD_length _ _)) (all_oneCell_toArray (cells8_one _)) ?_
  go_wp2
  refine bodyPost_ret (v := .agg (cells8 (nextD p d)).toArray) ?_ rfl ⟨by rw [digV_agg], setCells_below _ _ _ _ _ (by omega) R3.below⟩
  exact results_cell_row Tryd.results25 _ _ _ _ _ _ _ rfl (setCells_whole _ _ _ R3.o (by show 32 = (cells8 (nextD p d)).length; rw [cells8_length, nextD_length])) und24 rfl (digV_size _ (nextD_length _ _))
end Go.Proofs.YtegjphfkkafomaaDoor.Sha
/- The next chain ID: the program's walk. -/
namespace Go.Proofs.YtegjphfkkafomaaDoor.Sha
open Go.RowKit Go.Proofs Go.Proofs.YtegjphfkkafomaaDoor.Q Go.Proofs.YtegjphfkkafomaaDoorW.PrintWords Go.Proofs.YtegjphfkkafomaaDoorW.PrintLast Go.Proofs.YtegjphfkkafomaaDoorW.PrintMore

/-- What stands in Next: a hasher, and room for a digest. -/
structure NI (w : World) (p : Nat) (u : Value) (l : List Nat) (z : Int) (wr : World) : Prop where
  i : HI w p u l z wr
  o : wr.heap[w.heap.size + 1 + 1]? = some (.cells zero32 24 (0, 0))
  hp : w.heap.size + 1 + 1 < p
  ub : ∀ g, u.ownBlock = some g → w.heap.size + 1 + 1 < g
theorem NI.keepB {w w2 w3 : World} {p : Nat} {u : Value} {l : List Nat} {z : Int} (N : NI w p u l z w2) (hB : Below w2.heap.size w2 w3) : NI w p u l z w3 :=
  ⟨N.i.keepB hB, by rw [hB.block _ (lt_of_block N.o)]; exact N.o, N.hp, N.ub⟩
theorem NI.write {w w2 : World} {p : Nat} {u : Value} {l : List Nat} {z : Nat} (N : NI w p u l z w2) (hlt : 1 < w.heap.size) (s : ByteArray) (hs : s.size ≤ 1000000000) (hz : z ≤ 1000000000000) :
    Calls Tryd.prog 14 #[.pointer (some ⟨p, 0, none⟩), .string s] w2 fun e w' => e = .returned (.int .i64 s.size) ∧ ∃ u', NI w p u' (l ++ byN s) ((z + s.size : Nat) : Int) w' := by
  refine (write_calls w2 p u l z s N.i.laid N.i.h hs hz).mono ?_
  rintro e w4 ⟨rfl, u4, H4, hf4, ho4⟩
  have lt := lt_of_block N.o
  have hp := N.hp
  exact ⟨rfl, u4, N.i.write hlt H4 hf4 ho4, by rw [ho4.block _ lt (by omega) (fun e => by have := N.ub _ e; omega)]; exact N.o, hp, fun g hg => by have := hf4 g hg; omega⟩
theorem NI.of_new {w w2 : World} {p d : List Nat} (hL : Laid w) (R : RI2 w p d w2) : Calls Tryd.prog 12 #[] w2 fun e w' => e = .returned (.pointer (some ⟨w2.heap.size, 0, none⟩)) ∧ NI w w2.heap.size (.slice none 0 0) [] 0 w' ∧ RI2 w p d w' := by
  have hL2 := hL.of_below R.below hL.lt
  refine (new_calls w2 hL2).mono ?_
  rintro e w3 ⟨rfl, H3, hB3⟩
  have lt := lt_of_block R.o
  have R3 := R.keepB hB3
  exact ⟨rfl, ⟨⟨R3.below, hL2.of_below hB3 hL2.lt, H3, by have := R.below.size; omega, fun g hg => by simp [Value.ownBlock] at hg⟩, R3.o, by omega, fun g hg => by simp [Value.ownBlock] at hg⟩, R3⟩
attribute [local irreducible] textS sumN byN digV Go.wpQuiet
set_option maxHeartbeats 2000000 in
set_option maxRecDepth 100000 in
theorem next_calls (w : World) (p d : List Nat) (hL : Laid w) (hp : p.length = 32) (hd : d.length = 32) (bp : ∀ x ∈ p, x < 256) (bd : ∀ x ∈ d, x < 256) :
    Calls Tryd.prog 24 #[digV p, digV d] w fun e w' => e = .returned (digV (nextD p d)) ∧ Below w.heap.size w w' := by
  have hlt := hL.lt
  obtain ⟨tp, htp⟩ : ∃ t, t = textS p := ⟨_, rfl⟩
  obtain ⟨td, htd⟩ : ∃ t, t = textS d := ⟨_, rfl⟩
  have zp : tp.size = 71 := by rw [htp, textS_size, hp]
  have zd : td.size = 71 := by rw [htd, textS_size, hd]
  have hj : sumN ([] ++ byN tp ++ byN { data := #[32] } ++ byN td) (0 + tp.size + 1 + td.size) = nextD p d := by
    unfold nextD
    rw [List.nil_append, zp, zd, joinS_size p d hp hd]
    congr 1
    unfold joinS
    rw [byN_append, byN_append, htp, htd]
  have HT : ∀ w, Calls Tryd.prog 29 #[digV p] w fun e w' => e = .returned (.string tp) ∧ Below w.heap.size w w' := fun w => by rw [htp]; exact text_calls w p hp bp
  have HD : ∀ w, Calls Tryd.prog 29 #[digV d] w fun e w' => e = .returned (.string td) ∧ Below w.heap.size w w' := fun w => by rw [htd]; exact text_calls w d hd bd
  have H1 := Lib.hid HT
  have H2 := Lib.hid HD
  have H3 := Lib.hid hj
  have H4 := Lib.hid (And.intro zp zd)
  have HL := Lib.hid hL
  have HS := Lib.hid (RI2.start w p d)
  clear htp htd zp zd HT HD hj hL
  rw [digV_agg p, digV_agg d]
  go_enter Tryd.func24, Tryd.ntmps24
  go_wp2_with (go_at_call 12; refine (NI.of_new HL.out HS.out).mono ?_; rintro e w2 ⟨rfl, N2, R2⟩)
  rw [show (((w.alloc (.cells (cells8 p).toArray 24 (0, 0))).alloc (.cells (cells8 d).toArray 24 (0, 0))).alloc (.cells zero32 24 (0, 0))).heap.size = w.heap.size + 1 + 1 + 1 from by simp] at N2
  refine wp_region_quiet_below (by kernel_rfl) (by kernel_rfl) ?_
  refine wpQuiet_load_rowG rfl 24 (.tmp 2) rfl w.heap.size rfl 24 (cells8 p).toArray (0, 0) (.array 32 5) (by rintro _ ⟨q, rfl⟩; exact (R2.keepB (below_regrown w2 q.d q.os)).a) und24 rfl (digV_size _ hp) (v := digV p) (digV_agg _) ?_
  quiet_step ((go_at_call 29; exact Calls.regrown_of (H1.out _)))
  refine wpQuiet_load_rowG rfl 24 (.tmp 3) rfl (w.heap.size + 1) rfl 24 (cells8 d).toArray (0, 0) (.array 32 5) (by rintro _ ⟨q, rfl⟩; exact (R2.keepB (below_regrown w2 q.d q.os)).b) und24 rfl (digV_size _ hd) (v := digV d) (digV_agg _) ?_
  quiet_step ((go_at_call 29; exact Calls.regrown_of (H2.out _)))
  quiet_step (fail)
  quiet_step (fail)
  refine wpQuiet_nil ?_
  intro w3 hw'
  obtain ⟨pq, hw''⟩ := hw'
  have N3 := N2.keepB (below_regrown w2 pq.d pq.os)
  rw [← hw''] at N3
  clear hw'' N2 R2
  go_wp2
  obtain ⟨z1, z2⟩ := H4.out
  have i0 : ∀ w, (Instr.index 58 (.agg #[.string tp, .string { data := #[32] }, .string td]) (.int .i64 0)).run Tryd.prog w = .ok (.string tp) w := fun _ => by kernel_rfl
  have i1 : ∀ w, (Instr.index 58 (.agg #[.string tp, .string { data := #[32] }, .string td]) (.int .i64 1)).run Tryd.prog w = .ok (.string { data := #[32] }) w := fun _ => by kernel_rfl
  have i2 : ∀ w, (Instr.index 58 (.agg #[.string tp, .string { data := #[32] }, .string td]) (.int .i64 2)).run Tryd.prog w = .ok (.string td) w := fun _ => by kernel_rfl
  go_loopg [14] 3 (fun k v14 wr => (k = 3 ∧ v14 = .int .i64 0 ∧ NI w (w.heap.size + 1 + 1 + 1) (.slice none 0 0) [] ((0 : Nat) : Int) wr) ∨ (k = 2 ∧ v14 = .int .i64 1 ∧ ∃ u, NI w (w.heap.size + 1 + 1 + 1) u ([] ++ byN tp) ((0 + tp.size : Nat) : Int) wr) ∨
      (k = 1 ∧ v14 = .int .i64 2 ∧ ∃ u, NI w (w.heap.size + 1 + 1 + 1) u ([] ++ byN tp ++ byN { data := #[32] }) ((0 + tp.size + 1 : Nat) : Int) wr) ∨
      (k = 0 ∧ v14 = .int .i64 3 ∧ ∃ u, NI w (w.heap.size + 1 + 1 + 1) u ([] ++ byN tp ++ byN { data := #[32] } ++ byN td) ((0 + tp.size + 1 + td.size : Nat) : Int) wr))
  case atStart => exact .inl ⟨rfl, rfl, N3⟩
  case round =>
    clear N3
    rcases hrel with ⟨rfl, rfl, N⟩ | ⟨rfl, rfl, u, N⟩ | ⟨rfl, rfl, u, N⟩ | ⟨rfl, rfl, u, N⟩
    · go_wp2_with (go_at_call 14; refine (N.write hlt tp (by omega) (by omega)).mono ?_; rintro e w4 ⟨rfl, u4, N4⟩)
      go_roundg 2
      case measure => omega
      case rel => exact .inr (.inl ⟨rfl, rfl, u4, N4⟩)
    · go_wp2_with (go_at_call 14; refine (N.write hlt { data := #[32] } (by decide) (by omega)).mono ?_; rintro e w4 ⟨rfl, u4, N4⟩)
      go_roundg 1
      case measure => omega
      case rel => exact .inr (.inr (.inl ⟨rfl, rfl, u4, N4⟩))
    · go_wp2_with (go_at_call 14; refine (N.write hlt td (by omega) (by omega)).mono ?_; rintro e w4 ⟨rfl, u4, N4⟩)
      go_roundg 0
      case measure => omega
      case rel => exact .inr (.inr (.inr ⟨rfl, rfl, u4, N4⟩))
    · go_wp2_with (first
        | (go_at_call 15; refine (sum_calls _ _ _ _ _ N.i.laid N.i.h (by omega)).mono ?_; rintro e w4 ⟨rfl, hB4⟩; have N4 := N.keepB hB4; clear hB4; rw [H3.out])
        | (refine wpList_store_mid rfl 24 (.tmp 4) (.tmp 22) rfl (w.heap.size + 1 + 1) 0 (cells8 (nextD p d)).toArray rfl (digV_agg _) (there_32 N4.o rfl (nextD p d) (nextD_length _ _)) (digV_size _ (nextD_length _ _)) (all_oneCell_toArray (cells8_one _)) ?_))
      refine bodyPost_ret (v := .agg (cells8 (nextD p d)).toArray) ?_ rfl ⟨by rw [digV_agg], setCells_below _ _ _ _ _ (by omega) N4.i.below⟩
      exact results_cell_row Tryd.results24 _ _ _ _ _ _ _ rfl (setCells_whole _ _ _ N4.o (by show 32 = (cells8 (nextD p d)).length; rw [cells8_length, nextD_length])) und24 rfl (digV_size _ (nextD_length _ _))
end Go.Proofs.YtegjphfkkafomaaDoor.Sha
/- Lists of digests: read. -/
namespace Go.Proofs.YtegjphfkkafomaaDoor.Sha
open Go.RowKit Go.Proofs Go.Proofs.YtegjphfkkafomaaDoor.Q Go.Proofs.YtegjphfkkafomaaDoorW.PrintWords Go.Proofs.YtegjphfkkafomaaDoorW.PrintLast Go.Proofs.YtegjphfkkafomaaDoorW.PrintMore

/-- A digest lies at an address. -/
def DigAt (w : World) (a : Addr) (l : List Nat) : Prop := ∀ j v, (cells8 l)[j]? = some v → w.cell? (a.add j) = some v
theorem load_dig (w : World) (a : Addr) (l : List Nat) (hl : l.length = 32) (h : DigAt w a l) : (Instr.loadAt 24 (.pointer (some a))).run Tryd.prog w = .ok (digV l) w := by
  have hc : (loadCells a (cells8 l).length).run Tryd.prog w = .ok (cells8 l).toArray w := run_loadCells_list (P := Tryd.prog) w a (cells8 l) h
  have hv : (loadVar 24 a).run Tryd.prog w = .ok (.agg (cells8 l).toArray) w := by
    cases hq : Tryd.prog.info? 24 with
    | none => have := size24; simp [hq] at this
    | some i =>
      have hs : i.size = (cells8 l).length := by
        have := size24
        rw [hq] at this
        rw [cells8_length, hl]
        exact Option.some.inj this
      have hagg : (isAgg 24).run Tryd.prog w = .ok true w := by
        unfold isAgg
        rw [Sem.run_bind, run_underlying und24 w]
        rfl
      simp [loadVar, Sem.run_bind, hagg, sizeOf, typeInfo, hq, hs, hc]
  simp only [Instr.loadAt, Instr.sureAddr, Sem.run_bind, Sem.run_pure, Result.andThen_ok, hv]
  rfl
/-- A digest loaded, in a region that draws. -/
theorem wpQuiet_load_dig {ops : Array Oper} {C : World → Prop} {Q : Act → Prop} {a : Act} {o : Oper} {rest : List Oper} (hgd : Region.wanted o (yielded ops a.tmps) = true) (x : Operand) (ho : o.op = .load 24 x)
    (p : Addr) (hx : a.eval x = .pointer (some p)) (l : List Nat) (hl : l.length = 32) (hC : ∀ w, C w → DigAt w p l)
    (h : wpQuiet Tryd.prog ops C Q rest (a.put o.dst (digV l))) : wpQuiet Tryd.prog ops C Q (o :: rest) a := by
  unfold wpQuiet
  rw [if_pos hgd]
  refine ⟨digV l, fun w hw => ?_, h⟩
  unfold Oper.quietAt execOp
  simp only [ho, hx, Sem.run_bind, load_dig w p l hl (hC w hw), Result.andThen_ok]
  exact ⟨rfl, rfl⟩
/-- A slice of digests reads as these. -/
def DRow (w : World) (v : Value) (xs : List (List Nat)) : Prop :=
  (∀ l ∈ xs, l.length = 32 ∧ ∀ x ∈ l, x < 256) ∧ ((v = .slice none 0 0 ∧ xs = []) ∨ ∃ a cap, v = .slice (some a) xs.length cap ∧ ∀ i l, xs[i]? = some l → DigAt w (a.add (i * 32)) l)
theorem DRow.form {w : World} {v : Value} {xs : List (List Nat)} (h : DRow w v xs) : ∃ o cap, v = .slice o xs.length cap := by
  rcases h.2 with ⟨rfl, rfl⟩ | ⟨a, cap, rfl, _⟩
  · exact ⟨none, 0, rfl⟩
  · exact ⟨some a, cap, rfl⟩
theorem DRow.at' {w : World} {o : Option Addr} {n cap : Nat} {xs : List (List Nat)} (h : DRow w (.slice o n cap) xs) (i : Nat) (l : List Nat) (hi : xs[i]? = some l) : ∃ a, o = some a ∧ DigAt w (a.add (i * 32)) l ∧ l.length = 32 ∧ ∀ x ∈ l, x < 256 := by
  rcases h.2 with ⟨h1, rfl⟩ | ⟨a, cap, h1, h2⟩
  · cases hi
  · obtain ⟨rfl, rfl, rfl⟩ := Value.slice.inj h1
    exact ⟨a, rfl, h2 i l hi, h.1 l (List.mem_of_getElem? hi)⟩
theorem DRow.keepB {w w' : World} {v : Value} {xs : List (List Nat)} (h : DRow w v xs) (hB : Below w.heap.size w w') : DRow w' v xs := by
  refine ⟨h.1, ?_⟩
  rcases h.2 with h2 | ⟨a, cap, h1, h2⟩
  · exact .inl h2
  · refine .inr ⟨a, cap, h1, fun i l hi j v hj => ?_⟩
    have := h2 i l hi j v hj
    rw [hB.cell (block_lt_of_cell this)]
    exact this
theorem DRow.drewN {w : World} {v : Value} {xs : List (List Nat)} (h : DRow w v xs) (n : Nat) : DRow (w.drewN n) v xs := h
theorem dig_neq_run {l m : List Nat} (h1 : l.length = 32) (h2 : m.length = 32) (hl : ∀ x ∈ l, x < 256) (hm : ∀ x ∈ m, x < 256) (h : l ≠ m) (w : World) : (Go.binOp .neq 24 (digV l) (digV m)).run Tryd.prog w = .ok (.bool true) w := by
  rw [neq_dig l m h1 h2 hl hm, beq_eq_false_iff_ne.mpr h]
  rfl
theorem dig_eql_run {l m : List Nat} (h1 : l.length = 32) (h2 : m.length = 32) (hl : ∀ x ∈ l, x < 256) (hm : ∀ x ∈ m, x < 256) (h : l ≠ m) (w : World) : (Go.binOp .eql 24 (digV l) (digV m)).run Tryd.prog w = .ok (.bool false) w := by
  rw [eql_dig l m h1 h2 hl hm, beq_eq_false_iff_ne.mpr h]
def sharedN : List (List Nat) → List (List Nat) → Nat
  | x :: xs, y :: ys => if x = y then sharedN xs ys + 1 else 0
  | _, _ => 0
theorem shared_le : ∀ xs ys : List (List Nat), sharedN xs ys ≤ xs.length ∧ sharedN xs ys ≤ ys.length
  | [], _ => ⟨Nat.zero_le _, Nat.zero_le _⟩
  | _ :: _, [] => ⟨Nat.zero_le _, Nat.zero_le _⟩
  | x :: xs, y :: ys => by
    have := shared_le xs ys
    unfold sharedN
    by_cases e : x = y
    · rw [if_pos e, List.length_cons, List.length_cons]
      omega
    · rw [if_neg e]
      exact ⟨Nat.zero_le _, Nat.zero_le _⟩
theorem shared_step : ∀ (xs ys : List (List Nat)) (i : Nat) (l : List Nat), i ≤ sharedN xs ys → xs[i]? = some l → ys[i]? = some l → i + 1 ≤ sharedN xs ys
  | [], _, _, _, _, h, _ => by simp at h
  | _ :: _, [], _, _, _, _, h => by simp at h
  | x :: xs, y :: ys, 0, l, _, h1, h2 => by
    simp at h1 h2
    unfold sharedN
    rw [if_pos (by rw [h1, h2])]
    omega
  | x :: xs, y :: ys, i + 1, l, h, h1, h2 => by
    unfold sharedN at h ⊢
    by_cases e : x = y
    · rw [if_pos e] at h ⊢
      have := shared_step xs ys i l (by omega) (by simpa using h1) (by simpa using h2)
      omega
    · rw [if_neg e] at h
      omega
theorem shared_stop : ∀ (xs ys : List (List Nat)) (i : Nat) (l m : List Nat), i ≤ sharedN xs ys → xs[i]? = some l → ys[i]? = some m → l ≠ m → sharedN xs ys = i
  | [], _, _, _, _, _, h, _, _ => by simp at h
  | _ :: _, [], _, _, _, _, _, h, _ => by simp at h
  | x :: xs, y :: ys, 0, l, m, _, h1, h2, hn => by
    simp at h1 h2
    unfold sharedN
    rw [if_neg (by rw [h1, h2]; exact hn)]
  | x :: xs, y :: ys, i + 1, l, m, h, h1, h2, hn => by
    unfold sharedN at h ⊢
    by_cases e : x = y
    · rw [if_pos e] at h ⊢
      rw [shared_stop xs ys i l m (by omega) (by simpa using h1) (by simpa using h2) hn]
    · rw [if_neg e] at h
      omega
theorem take_snoc2 {xs ys : List (List Nat)} {i : Nat} {l : List Nat} (h : xs.take i = ys.take i) (h1 : xs[i]? = some l) (h2 : ys[i]? = some l) : xs.take (i + 1) = ys.take (i + 1) := by
  rw [List.take_add_one, List.take_add_one, h, h1, h2]
attribute [local irreducible] digV Go.wpQuiet
set_option maxHeartbeats 2000000 in
set_option maxRecDepth 100000 in
theorem same_calls (w : World) (a b : Value) (xs ys : List (List Nat)) (ha : DRow w a xs) (hb : DRow w b ys) (hx : xs.length ≤ 1000) :
    Calls Tryd.prog 20 #[a, b] w fun e w' => e = .returned (.bool (decide (xs = ys))) ∧ ∃ n, w' = w.drewN n := by
  obtain ⟨oa, ca, rfl⟩ := ha.form
  obtain ⟨ob, cb, rfl⟩ := hb.form
  by_cases hlen : xs.length = ys.length
  · go_enter Tryd.func20, Tryd.ntmps20
    have hgd := guard_dig
    go_wp2
    have HLn := Lib.hid hlen
    clear hlen
    go_loopg [5] xs.length (fun k v5 wr => ∃ i n : Nat, v5 = .int .i64 i ∧ i ≤ xs.length ∧ wr = w.drewN n ∧ xs.take i = ys.take i ∧ k = xs.length - i)
    case atStart => exact ⟨0, 0, rfl, by omega, rfl, rfl, rfl⟩
    case round =>
      obtain ⟨i, n, rfl, hi, hwr, ht, rfl⟩ := hrel
      have HW := Lib.hid hwr
      have ha2 : DRow wr (.slice oa xs.length ca) xs := by rw [hwr]; exact ha.drewN n
      have hb2 : DRow wr (.slice ob ys.length cb) ys := by rw [hwr]; exact hb.drewN n
      clear hwr
      by_cases hil : i < xs.length
      · obtain ⟨l, hl⟩ : ∃ l, xs[i]? = some l := ⟨_, List.getElem?_eq_getElem hil⟩
        obtain ⟨m, hm⟩ : ∃ m, ys[i]? = some m := ⟨_, List.getElem?_eq_getElem (by have := HLn.out; omega)⟩
        obtain ⟨p, rfl, hp, hl1, hl2⟩ := ha2.at' i l hl
        obtain ⟨q, rfl, hq, hm1, hm2⟩ := hb2.at' i m hm
        have c1 : (i : Int) < (xs.length : Int) := by omega
        have c2 : (i : Int) < (ys.length : Int) := by have := HLn.out; omega
        have c3 : ((i : Int)).toNat = i := by omega
        have c4 : (0 : Int) ≤ (i : Int) := by omega
        have l1 : ∀ k, (Instr.loadAt 24 (.pointer (some (p.add (i * 32))))).run Tryd.prog (wr.drewN k) = .ok (digV l) (wr.drewN k) := fun k => load_dig _ _ l hl1 hp
        have l2 : ∀ k, (Instr.loadAt 24 (.pointer (some (q.add (i * 32))))).run Tryd.prog (wr.drewN k) = .ok (digV m) (wr.drewN k) := fun k => load_dig _ _ m hm1 hq
        by_cases hlm : l = m
        · subst hlm
          have hn := neq_same l hl1 hl2
          have ht2 := take_snoc2 ht hl hm
          go_wp2
          refine wp_region_quiet_lit (by kernel_rfl) (by kernel_rfl) ?_
          quiet_step (fail)
          quiet_step (fail)
          quiet_step (fail)
          refine wpQuiet_load_dig (by kernel_rfl) (.tmp 19) rfl (p.add (i * 32)) rfl l hl1 (by rintro _ ⟨k, rfl⟩; exact hp) ?_
          quiet_step (fail)
          quiet_step (fail)
          quiet_step (fail)
          refine wpQuiet_load_dig (by kernel_rfl) (.tmp 23) rfl (q.add (i * 32)) rfl l hm1 (by rintro _ ⟨k, rfl⟩; exact hq) ?_
          quiet_step (fail)
          refine wpQuiet_nil ?_
          intro _ hw'
          obtain ⟨nq, hw''⟩ := hw'
          subst hw''
          go_wp2
          go_roundg (xs.length - (i + 1))
          case measure => omega
          case rel => exact ⟨i + 1, _, by simp, by omega, by rw [HW.out, World.drewN_drewN], ht2, rfl⟩
        · have hn := dig_neq_run hl1 hm1 hl2 hm2 hlm
          have hd : decide (xs = ys) = false := decide_eq_false (fun e => hlm (by rw [e, hm] at hl; exact (Option.some.inj hl).symm))
          go_wp2
          refine wp_region_quiet_lit (by kernel_rfl) (by kernel_rfl) ?_
          quiet_step (fail)
          quiet_step (fail)
          quiet_step (fail)
          refine wpQuiet_load_dig (by kernel_rfl) (.tmp 19) rfl (p.add (i * 32)) rfl l hl1 (by rintro _ ⟨k, rfl⟩; exact hp) ?_
          quiet_step (fail)
          quiet_step (fail)
          quiet_step (fail)
          refine wpQuiet_load_dig (by kernel_rfl) (.tmp 23) rfl (q.add (i * 32)) rfl m hm1 (by rintro _ ⟨k, rfl⟩; exact hq) ?_
          quiet_step (fail)
          refine wpQuiet_nil ?_
          intro _ hw'
          obtain ⟨nq, hw''⟩ := hw'
          subst hw''
          go_wp2
          go_ret
          exact ⟨by rw [hd]; rfl, _, by rw [HW.out, World.drewN_drewN]⟩
      · have e1 : i = xs.length := by omega
        subst e1
        have hd : decide (xs = ys) = true := decide_eq_true (by rw [List.take_of_length_le (Nat.le_refl _), HLn.out, List.take_of_length_le (Nat.le_refl _)] at ht; exact ht)
        go_wp2
        go_ret
        exact ⟨by rw [hd]; rfl, n, HW.out⟩
  · have c1 : ¬ (xs.length : Int) = (ys.length : Int) := by omega
    have hd : decide (xs = ys) = false := decide_eq_false (fun e => hlen (by rw [e]))
    have c2 : ((xs.length : Int) == (ys.length : Int)) = false := beq_eq_false_iff_ne.mpr c1
    have c3 : ((xs.length : Int) != (ys.length : Int)) = true := bne_iff_ne.mpr c1
    go_enter Tryd.func20, Tryd.ntmps20
    go_wp2
    go_ret
    exact ⟨by rw [hd]; rfl, 0, rfl⟩
set_option maxHeartbeats 2000000 in
set_option maxRecDepth 100000 in
theorem shared_calls (w : World) (a b : Value) (xs ys : List (List Nat)) (ha : DRow w a xs) (hb : DRow w b ys) (hx : xs.length ≤ 1000) :
    Calls Tryd.prog 22 #[a, b] w fun e w' => e = .returned (.int .i64 (sharedN xs ys : Int)) ∧ ∃ n, w' = w.drewN n := by
  obtain ⟨oa, ca, rfl⟩ := ha.form
  obtain ⟨ob, cb, rfl⟩ := hb.form
  have hle := shared_le xs ys
  have hgd := guard_dig
  go_enter Tryd.func22, Tryd.ntmps22
  go_wp2
  go_loopg [5] xs.length (fun k v5 wr => ∃ i n : Nat, v5 = .int .i64 i ∧ i ≤ sharedN xs ys ∧ wr = w.drewN n ∧ k = xs.length - i)
  case atStart => exact ⟨0, 0, rfl, by omega, rfl, rfl⟩
  case round =>
    obtain ⟨i, n, rfl, hi, hwr, rfl⟩ := hrel
    have HW := Lib.hid hwr
    have ha2 : DRow wr (.slice oa xs.length ca) xs := by rw [hwr]; exact ha.drewN n
    have hb2 : DRow wr (.slice ob ys.length cb) ys := by rw [hwr]; exact hb.drewN n
    clear hwr
    by_cases hil : i < xs.length
    · by_cases hjl : i < ys.length
      · obtain ⟨l, hl⟩ : ∃ l, xs[i]? = some l := ⟨_, List.getElem?_eq_getElem hil⟩
        obtain ⟨m, hm⟩ : ∃ m, ys[i]? = some m := ⟨_, List.getElem?_eq_getElem hjl⟩
        obtain ⟨p, rfl, hp, hl1, hl2⟩ := ha2.at' i l hl
        obtain ⟨q, rfl, hq, hm1, hm2⟩ := hb2.at' i m hm
        have c1 : (i : Int) < (xs.length : Int) := by omega
        have c2 : (i : Int) < (ys.length : Int) := by omega
        have c3 : ((i : Int)).toNat = i := by omega
        have c4 : (0 : Int) ≤ (i : Int) := by omega
        have l1 : ∀ k, (Instr.loadAt 24 (.pointer (some (p.add (i * 32))))).run Tryd.prog (wr.drewN k) = .ok (digV l) (wr.drewN k) := fun k => load_dig _ _ l hl1 hp
        have l2 : ∀ k, (Instr.loadAt 24 (.pointer (some (q.add (i * 32))))).run Tryd.prog (wr.drewN k) = .ok (digV m) (wr.drewN k) := fun k => load_dig _ _ m hm1 hq
        by_cases hlm : l = m
        · subst hlm
          have hn := eql_same l hl1 hl2
          have hst := shared_step xs ys i l hi hl hm
          clear hle
          go_wp2
          refine wp_region_quiet_lit (by kernel_rfl) (by kernel_rfl) ?_
          quiet_step (fail)
          quiet_step (fail)
          quiet_step (fail)
          quiet_step (fail)
          quiet_step (fail)
          quiet_step (fail)
          quiet_step (fail)
          quiet_step (fail)
          quiet_step (fail)
          quiet_step (fail)
          quiet_step (fail)
          quiet_step (fail)
          quiet_step (fail)
          quiet_step (fail)
          refine wpQuiet_load_dig (by kernel_rfl) (.tmp 19) rfl (p.add (i * 32)) rfl l hl1 (by rintro _ ⟨k, rfl⟩; exact hp) ?_
          quiet_step (fail)
          quiet_step (fail)
          quiet_step (fail)
          refine wpQuiet_load_dig (by kernel_rfl) (.tmp 23) rfl (q.add (i * 32)) rfl l hm1 (by rintro _ ⟨k, rfl⟩; exact hq) ?_
          quiet_step (fail)
          quiet_step (fail)
          refine wpQuiet_nil ?_
          intro _ hw'
          obtain ⟨nq, hw''⟩ := hw'
          subst hw''
          go_wp2
          go_roundg (xs.length - (i + 1))
          case measure => omega
          case rel => exact ⟨i + 1, _, by simp, hst, by rw [HW.out, World.drewN_drewN], rfl⟩
        · have hn := dig_eql_run hl1 hm1 hl2 hm2 hlm
          have hst := shared_stop xs ys i l m hi hl hm hlm
          clear hle
          go_wp2
          refine wp_region_quiet_lit (by kernel_rfl) (by kernel_rfl) ?_
          quiet_step (fail)
          quiet_step (fail)
          quiet_step (fail)
          quiet_step (fail)
          quiet_step (fail)
          quiet_step (fail)
          quiet_step (fail)
          quiet_step (fail)
          quiet_step (fail)
          quiet_step (fail)
          quiet_step (fail)
          quiet_step (fail)
          quiet_step (fail)
          quiet_step (fail)
          refine wpQuiet_load_dig (by kernel_rfl) (.tmp 19) rfl (p.add (i * 32)) rfl l hl1 (by rintro _ ⟨k, rfl⟩; exact hp) ?_
          quiet_step (fail)
          quiet_step (fail)
          quiet_step (fail)
          refine wpQuiet_load_dig (by kernel_rfl) (.tmp 23) rfl (q.add (i * 32)) rfl m hm1 (by rintro _ ⟨k, rfl⟩; exact hq) ?_
          quiet_step (fail)
          quiet_step (fail)
          refine wpQuiet_nil ?_
          intro _ hw'
          obtain ⟨nq, hw''⟩ := hw'
          subst hw''
          go_wp2
          go_ret
          exact ⟨by rw [hst]; rfl, _, by rw [HW.out, World.drewN_drewN]⟩
      · have hst : sharedN xs ys = i := by omega
        have c1 : (i : Int) < (xs.length : Int) := by omega
        have c2 : ¬ (i : Int) < (ys.length : Int) := by omega
        clear hle
        go_wp2
        refine wp_region_quiet_lit (by kernel_rfl) (by kernel_rfl) ?_
        quiet_step (fail)
        quiet_step (fail)
        quiet_step (fail)
        quiet_step (fail)
        quiet_step (fail)
        quiet_step (fail)
        quiet_step (fail)
        quiet_step (fail)
        quiet_step (fail)
        quiet_step (fail)
        quiet_step (fail)
        refine wpQuiet_skip (by kernel_rfl) ?_
        refine wpQuiet_skip (by kernel_rfl) ?_
        refine wpQuiet_skip (by kernel_rfl) ?_
        refine wpQuiet_skip (by kernel_rfl) ?_
        refine wpQuiet_skip (by kernel_rfl) ?_
        refine wpQuiet_skip (by kernel_rfl) ?_
        refine wpQuiet_skip (by kernel_rfl) ?_
        refine wpQuiet_skip (by kernel_rfl) ?_
        refine wpQuiet_skip (by kernel_rfl) ?_
        quiet_step (fail)
        refine wpQuiet_nil ?_
        intro _ hw'
        obtain ⟨nq, hw''⟩ := hw'
        subst hw''
        go_wp2
        go_ret
        exact ⟨by rw [hst]; rfl, _, by rw [HW.out, World.drewN_drewN]⟩
    · have hst : sharedN xs ys = i := by omega
      have c1 : ¬ (i : Int) < (xs.length : Int) := by omega
      clear hle
      go_wp2
      refine wp_region_quiet_lit (by kernel_rfl) (by kernel_rfl) ?_
      quiet_step (fail)
      quiet_step (fail)
      quiet_step (fail)
      quiet_step (fail)
      quiet_step (fail)
      refine wpQuiet_skip (by kernel_rfl) ?_
      refine wpQuiet_skip (by kernel_rfl) ?_
      refine wpQuiet_skip (by kernel_rfl) ?_
      refine wpQuiet_skip (by kernel_rfl) ?_
      quiet_step (fail)
      quiet_step (fail)
      refine wpQuiet_skip (by kernel_rfl) ?_
      refine wpQuiet_skip (by kernel_rfl) ?_
      refine wpQuiet_skip (by kernel_rfl) ?_
      refine wpQuiet_skip (by kernel_rfl) ?_
      refine wpQuiet_skip (by kernel_rfl) ?_
      refine wpQuiet_skip (by kernel_rfl) ?_
      refine wpQuiet_skip (by kernel_rfl) ?_
      refine wpQuiet_skip (by kernel_rfl) ?_
      refine wpQuiet_skip (by kernel_rfl) ?_
      quiet_step (fail)
      refine wpQuiet_nil ?_
      intro _ hw'
      obtain ⟨nq, hw''⟩ := hw'
      subst hw''
      go_wp2
      go_ret
      exact ⟨by rw [hst]; rfl, _, by rw [HW.out, World.drewN_drewN]⟩
end Go.Proofs.YtegjphfkkafomaaDoor.Sha
/- Lists of digests: the reference's Shared. -/
namespace Go.Proofs.YtegjphfkkafomaaDoor.Sha
open Go.RowKit Go.Proofs Go.Proofs.YtegjphfkkafomaaDoor.Q Go.Proofs.YtegjphfkkafomaaDoorW.PrintWords Go.Proofs.YtegjphfkkafomaaDoorW.PrintLast Go.Proofs.YtegjphfkkafomaaDoorW.PrintMore

attribute [local irreducible] digV Go.wpQuiet
set_option maxHeartbeats 2000000 in
set_option maxRecDepth 100000 in
theorem refShared_calls (w : World) (a b : Value) (xs ys : List (List Nat)) (ha : DRow w a xs) (hb : DRow w b ys) (hx : xs.length ≤ 1000) :
    Calls Tryd.prog 23 #[a, b] w fun e w' => e = .returned (.int .i64 (sharedN xs ys : Int)) ∧ ∃ n, w' = w.drewN n := by
  obtain ⟨oa, ca, rfl⟩ := ha.form
  obtain ⟨ob, cb, rfl⟩ := hb.form
  have hle := Lib.hid (shared_le xs ys)
  have hgd := guard_dig
  go_enter Tryd.func23, Tryd.ntmps23
  go_wp2
  go_loopg [5, 6] (xs.length + 1) (fun k v5 v6 wr => ∃ i m n : Nat, v5 = .int .i64 m ∧ v6 = .int .i64 i ∧ ((m = i ∧ i ≤ sharedN xs ys) ∨ (m + 1 = i ∧ m = sharedN xs ys)) ∧ wr = w.drewN n ∧ i ≤ xs.length ∧ k = xs.length + 1 - i)
  case atStart => exact ⟨0, 0, 0, rfl, rfl, .inl ⟨rfl, by omega⟩, rfl, by omega, rfl⟩
  case round =>
    obtain ⟨i, mm, n, rfl, rfl, hst, hwr, hix, rfl⟩ := hrel
    have HW := Lib.hid hwr
    have ha2 : DRow wr (.slice oa xs.length ca) xs := by rw [hwr]; exact ha.drewN n
    have hb2 : DRow wr (.slice ob ys.length cb) ys := by rw [hwr]; exact hb.drewN n
    clear hwr
    have c3 : ((i : Int)).toNat = i := by omega
    have c4 : (0 : Int) ≤ (i : Int) := by omega
    rcases hst with ⟨rfl, hi⟩ | ⟨hi1, hi2⟩
    · by_cases hil : mm < xs.length
      · by_cases hjl : mm < ys.length
        · obtain ⟨l, hl⟩ : ∃ l, xs[mm]? = some l := ⟨_, List.getElem?_eq_getElem hil⟩
          obtain ⟨m, hm⟩ : ∃ m, ys[mm]? = some m := ⟨_, List.getElem?_eq_getElem hjl⟩
          obtain ⟨p, rfl, hp, hl1, hl2⟩ := ha2.at' mm l hl
          obtain ⟨q, rfl, hq, hm1, hm2⟩ := hb2.at' mm m hm
          have c1 : (mm : Int) < (xs.length : Int) := by omega
          have c2 : (mm : Int) < (ys.length : Int) := by omega
          by_cases hlm : l = m
          · subst hlm
            have hn := eql_same l hl1 hl2
            have hs2 := shared_step xs ys mm l hi hl hm
            go_wp2
            refine wp_region_quiet_lit (by kernel_rfl) (by kernel_rfl) ?_
            quiet_step (fail)
            quiet_step (fail)
            quiet_step (fail)
            refine wpQuiet_load_dig (by kernel_rfl) (.tmp 26) rfl (p.add (mm * 32)) rfl l hl1 (by rintro _ ⟨k, rfl⟩; exact hp) ?_
            quiet_step (fail)
            quiet_step (fail)
            quiet_step (fail)
            refine wpQuiet_load_dig (by kernel_rfl) (.tmp 30) rfl (q.add (mm * 32)) rfl l hm1 (by rintro _ ⟨k, rfl⟩; exact hq) ?_
            quiet_step (fail)
            refine wpQuiet_nil ?_
            intro _ hw'
            obtain ⟨nq, hw''⟩ := hw'
            subst hw''
            go_wp2
            go_roundg (xs.length + 1 - (mm + 1))
            case measure => omega
            case rel => exact ⟨mm + 1, mm + 1, _, by simp, by simp, .inl ⟨rfl, hs2⟩, by rw [HW.out, World.drewN_drewN], by omega, rfl⟩
          · have hn := dig_eql_run hl1 hm1 hl2 hm2 hlm
            have hs2 := Lib.hid (shared_stop xs ys mm l m hi hl hm hlm)
            go_wp2
            refine wp_region_quiet_lit (by kernel_rfl) (by kernel_rfl) ?_
            quiet_step (fail)
            quiet_step (fail)
            quiet_step (fail)
            refine wpQuiet_load_dig (by kernel_rfl) (.tmp 26) rfl (p.add (mm * 32)) rfl l hl1 (by rintro _ ⟨k, rfl⟩; exact hp) ?_
            quiet_step (fail)
            quiet_step (fail)
            quiet_step (fail)
            refine wpQuiet_load_dig (by kernel_rfl) (.tmp 30) rfl (q.add (mm * 32)) rfl m hm1 (by rintro _ ⟨k, rfl⟩; exact hq) ?_
            quiet_step (fail)
            refine wpQuiet_nil ?_
            intro _ hw'
            obtain ⟨nq, hw''⟩ := hw'
            subst hw''
            go_wp2
            go_roundg (xs.length + 1 - (mm + 1))
            case measure => omega
            case rel => exact ⟨mm + 1, mm, _, rfl, by simp, .inr ⟨rfl, hs2.out.symm⟩, by rw [HW.out, World.drewN_drewN], by omega, rfl⟩
        · have hs2 := Lib.hid (show sharedN xs ys = mm by have := hle.out; omega)
          have c1 : (mm : Int) < (xs.length : Int) := by omega
          have c2 : ¬ (mm : Int) < (ys.length : Int) := by omega
          go_wp2
          go_ret
          exact ⟨by rw [hs2.out]; rfl, n, HW.out⟩
      · have hs2 := Lib.hid (show sharedN xs ys = mm by have := hle.out; omega)
        have c1 : ¬ (mm : Int) < (xs.length : Int) := by omega
        go_wp2
        go_ret
        exact ⟨by rw [hs2.out]; rfl, n, HW.out⟩
    · have hs2 := Lib.hid hi2
      have c5 : ¬ (mm : Int) = (i : Int) := by omega
      have c6 : ((mm : Int) == (i : Int)) = false := beq_eq_false_iff_ne.mpr c5
      clear hi2
      by_cases hil : (i : Int) < (xs.length : Int)
      · by_cases hjl : (i : Int) < (ys.length : Int)
        · go_wp2
          go_ret
          exact ⟨by rw [← hs2.out]; rfl, n, HW.out⟩
        · go_wp2
          go_ret
          exact ⟨by rw [← hs2.out]; rfl, n, HW.out⟩
      · go_wp2
        go_ret
        exact ⟨by rw [← hs2.out]; rfl, n, HW.out⟩
end Go.Proofs.YtegjphfkkafomaaDoor.Sha
/- Lists of digests: made. The chain IDs. -/
namespace Go.Proofs.YtegjphfkkafomaaDoor.Sha
open Go.RowKit Go.Proofs Go.Proofs.YtegjphfkkafomaaDoor.Q Go.Proofs.YtegjphfkkafomaaDoorW.PrintWords Go.Proofs.YtegjphfkkafomaaDoorW.PrintLast Go.Proofs.YtegjphfkkafomaaDoorW.PrintMore

def Digs (L : List (List Nat)) : Prop := ∀ l ∈ L, l.length = 32 ∧ ∀ x ∈ l, x < 256
def cellsD : List (List Nat) → List Value
  | [] => []
  | l :: r => cells8 l ++ cellsD r
theorem cellsD_append : ∀ (a b : List (List Nat)), cellsD (a ++ b) = cellsD a ++ cellsD b
  | [], _ => rfl
  | l :: r, b => by
    show cells8 l ++ cellsD (r ++ b) = cells8 l ++ cellsD r ++ cellsD b
    rw [cellsD_append r b, List.append_assoc]
theorem cellsD_one (l : List Nat) : cellsD [l] = cells8 l := List.append_nil _
theorem cellsD_length : ∀ (L : List (List Nat)), Digs L → (cellsD L).length = L.length * 32
  | [], _ => rfl
  | l :: r, h => by
    show (cells8 l ++ cellsD r).length = (r.length + 1) * 32
    rw [List.length_append, cells8_length, (h l List.mem_cons_self).1, cellsD_length r (fun x hx => h x (List.mem_cons_of_mem _ hx))]
    omega
theorem cellsD_get : ∀ (L : List (List Nat)) (i : Nat) (l : List Nat), Digs L → L[i]? = some l → ∀ j v, (cells8 l)[j]? = some v → (cellsD L)[i * 32 + j]? = some v
  | [], _, _, _, h, _, _, _ => by simp at h
  | m :: r, 0, l, h, hl, j, v, hv => by
    simp at hl
    subst hl
    show (cells8 m ++ cellsD r)[0 * 32 + j]? = some v
    rw [Nat.zero_mul, Nat.zero_add, List.getElem?_append_left (List.getElem?_eq_some_iff.1 hv).1]
    exact hv
  | m :: r, i + 1, l, h, hl, j, v, hv => by
    have h32 := (h m List.mem_cons_self).1
    show (cells8 m ++ cellsD r)[(i + 1) * 32 + j]? = some v
    rw [List.getElem?_append_right (by rw [cells8_length, h32]; omega), cells8_length, h32, show (i + 1) * 32 + j - 32 = i * 32 + j from by omega]
    exact cellsD_get r i l (fun x hx => h x (List.mem_cons_of_mem _ hx)) (by simpa using hl) j v hv
theorem cellsD_oneC : ∀ (L : List (List Nat)), ∀ u ∈ cellsD L, u.oneCell' = true
  | [], u, h => by cases h
  | l :: r, u, h => by
    rcases List.mem_append.1 (show u ∈ cells8 l ++ cellsD r from h) with h | h
    · exact cells8_one l u h
    · exact cellsD_oneC r u h
theorem add_add (g i j : Nat) : ((⟨g, 0, none⟩ : Addr).add i).add j = ⟨g, i + j, none⟩ := by
  rw [add_zero, Addr.add_mid]
/-- A row that the call owns reads as its digests. -/
theorem DRow_of_own {w : World} {base : Nat} {v : Value} {L : List (List Nat)} (hd : Digs L) (h : w.ownsRow base 24 32 v L.length (cellsD L)) : DRow w v L := by
  refine ⟨hd, ?_⟩
  rcases h.2 with ⟨h1, h2⟩ | ⟨g, cap, cur, h1, _, hg, _, _, _, ht⟩
  · exact .inl ⟨h1, List.eq_nil_of_length_eq_zero h2⟩
  · refine .inr ⟨⟨g, 0, none⟩, cap, h1, fun i l hi j u hj => ?_⟩
    rw [add_add, block_cell hg]
    have h2 := cellsD_get L i l hd hi j u hj
    rw [← ht, List.getElem?_take] at h2
    split at h2
    · rw [Array.getElem?_toList] at h2
      exact h2
    · cases h2
/-- A chain ID. -/
def chAt (xs : List (List Nat)) : Nat → List Nat
  | 0 => xs.getD 0 []
  | i + 1 => nextD (chAt xs i) (xs.getD (i + 1) [])
def chainN (xs : List (List Nat)) (n : Nat) : List (List Nat) := (List.range n).map (chAt xs)
theorem chainN_succ (xs : List (List Nat)) (n : Nat) : chainN xs (n + 1) = chainN xs n ++ [chAt xs n] := by
  unfold chainN
  rw [List.range_succ, List.map_append]
  rfl
theorem chainN_length (xs : List (List Nat)) (n : Nat) : (chainN xs n).length = n := by unfold chainN; simp
theorem chainN_get (xs : List (List Nat)) (n i : Nat) (h : i < n) : (chainN xs n)[i]? = some (chAt xs i) := by
  unfold chainN
  rw [List.getElem?_map, List.getElem?_range h]
  rfl
theorem chAt_dig {xs : List (List Nat)} (h : Digs xs) : ∀ i, i < xs.length → (chAt xs i).length = 32 ∧ ∀ x ∈ chAt xs i, x < 256
  | 0, hi => by
    show (xs.getD 0 []).length = 32 ∧ _
    rw [show chAt xs 0 = xs.getD 0 [] from rfl, List.getD_eq_getElem?_getD, List.getElem?_eq_getElem hi]
    exact h _ (List.getElem_mem hi)
  | i + 1, _ => ⟨nextD_length _ _, nextD_lt _ _⟩
theorem chainN_dig {xs : List (List Nat)} (h : Digs xs) (n : Nat) (hn : n ≤ xs.length) : Digs (chainN xs n) := by
  intro l hl
  obtain ⟨i, hi, rfl⟩ := List.mem_map.1 hl
  exact chAt_dig h i (by have := List.mem_range.1 hi; omega)

/-- In the loop that makes a list. -/
structure CIn (w : World) (v : Value) (L : List (List Nat)) (wr : World) : Prop where
  below : Below w.heap.size w wr
  own : wr.ownsRow w.heap.size 24 32 v L.length (cellsD L)
/-- .. with a digest in a block of its own. -/
structure DIn (w : World) (v : Value) (L : List (List Nat)) (D : Nat) (e : List Nat) (wr : World) : Prop where
  c : CIn w v L wr
  d : wr.heap[D]? = some (.cells (cells8 e).toArray 24 (0, 0))
  hD : w.heap.size ≤ D
  vD : v.ownBlock ≠ some D
theorem CIn.keepB {w w2 w3 : World} {v : Value} {L : List (List Nat)} (h : CIn w v L w2) (hB : Below w2.heap.size w2 w3) : CIn w v L w3 :=
  ⟨h.below.trans (hB.mono h.below.size), ownsRow_block h.own (fun g hg => hB.block g (h.own.lt g hg).2)⟩
theorem CIn.digest {w wr : World} {v : Value} {L : List (List Nat)} (h : CIn w v L wr) (e : List Nat) (he : e.length = 32) :
    DIn w v L wr.heap.size e ((wr.alloc (.cells zero32 24 (0, 0))).setCells wr.heap.size 0 (cells8 e)) := by
  have hB : Below wr.heap.size wr ((wr.alloc (.cells zero32 24 (0, 0))).setCells wr.heap.size 0 (cells8 e)) := setCells_below _ _ _ _ _ (Nat.le_refl _) ((Below.refl _ _).alloc (Nat.le_refl _) _)
  exact ⟨h.keepB hB, setCells_whole _ _ _ (alloc_new _ _ _ rfl) (by rw [cells8_length, he]; rfl), h.below.size, fun g => by have := (h.own.lt _ g).2; omega⟩
theorem DIn.keepB {w w2 w3 : World} {v : Value} {L : List (List Nat)} {D : Nat} {e : List Nat} (h : DIn w v L D e w2) (hB : Below w2.heap.size w2 w3) : DIn w v L D e w3 :=
  ⟨h.c.keepB hB, by rw [hB.block _ (lt_of_block h.d)]; exact h.d, h.hD, h.vD⟩
theorem setCells_other {g i : Nat} (hne : i ≠ g) : ∀ (vs : List Value) (o : Nat) (w : World), (w.setCells g o vs).heap[i]? = w.heap[i]?
  | [], _, _ => rfl
  | v :: r, o, w => by
    show ((w.setCell ⟨g, o, none⟩ v).setCells g (o + 1) r).heap[i]? = _
    rw [setCells_other hne r]
    exact Below.heap_setCell _ _ _ _ hne
theorem DIn.put {w w2 : World} {v : Value} {L : List (List Nat)} {D : Nat} {e : List Nat} (h : DIn w v L D e w2) (he : e.length = 32) (f : List Nat) (hf : f.length = 32) : DIn w v L D f (w2.setCells D 0 (cells8 f)) := by
  have hB : Below D w2 (w2.setCells D 0 (cells8 f)) := setCells_below _ _ _ _ _ (Nat.le_refl _) (Below.refl _ _)
  refine ⟨⟨h.c.below.trans (hB.mono h.hD), ownsRow_block h.c.own (fun g hg => ?_)⟩, setCells_whole _ _ _ h.d (by rw [List.size_toArray, cells8_length, cells8_length, he, hf]), h.hD, h.vD⟩
  have hne : g ≠ D := fun e => h.vD (by rw [hg, e])
  exact setCells_other hne _ _ _
theorem info24 : (Tryd.prog.info? 24).map (fun i => (i.zero, i.size, i.bytes)) = some (some (.agg zero32), 32, 32) := by kernel_rfl
theorem wpList_load_dig {ops : Array Oper} {rest : List Oper} {o : Oper} {a : Act} {w : World} {Q : Exit → Act → World → Prop} (hgd : o.guard = none) (x : Operand) (ho : o.op = .load 24 x)
    (p : Addr) (hx : a.eval x = .pointer (some p)) (l : List Nat) (hl : l.length = 32) (hp : DigAt w p l)
    (h : wpList Tryd.prog ops Q rest (a.put o.dst (digV l)) w) : wpList Tryd.prog ops Q (o :: rest) a w :=
  wpList_plain hgd fun _ hK => by
    unfold Oper.wp execOp
    simp only [ho, hx, Sem.run_bind, load_dig w p l hl hp, Result.andThen_ok]
    exact hK _ _ h
end Go.Proofs.YtegjphfkkafomaaDoor.Sha
/- The chain IDs of a list: the program's walk. -/
namespace Go.Proofs.YtegjphfkkafomaaDoor.Sha
open Go.RowKit Go.Proofs Go.Proofs.YtegjphfkkafomaaDoor.Q Go.Proofs.YtegjphfkkafomaaDoorW.PrintWords Go.Proofs.YtegjphfkkafomaaDoorW.PrintLast Go.Proofs.YtegjphfkkafomaaDoorW.PrintMore

theorem fold_over : ∀ (vs : List Value) (k : Nat) (cs : Array Value), List.foldl (fun (cs : Array Value) (x : Value × Nat) => cs.setIfInBounds x.snd x.fst) cs (vs.zipIdx k) = laidOver cs k vs
  | [], _, _ => rfl
  | v :: r, k, cs => fold_over r (k + 1) (cs.setIfInBounds k v)
theorem fold_whole (l : List Nat) (hl : l.length = 32) : List.foldl (fun (cs : Array Value) (x : Value × Nat) => cs.setIfInBounds x.snd x.fst) (#[.int .u8 0, .int .u8 0, .int .u8 0, .int .u8 0, .int .u8 0, .int .u8 0, .int .u8 0, .int .u8 0, .int .u8 0, .int .u8 0, .int .u8 0, .int .u8 0, .int .u8 0, .int .u8 0, .int .u8 0, .int .u8 0, .int .u8 0, .int .u8 0, .int .u8 0, .int .u8 0, .int .u8 0, .int .u8 0, .int .u8 0, .int .u8 0, .int .u8 0, .int .u8 0, .int .u8 0, .int .u8 0, .int .u8 0, .int .u8 0, .int .u8 0, .int .u8 0] : Array Value) (cells8 l).zipIdx = (cells8 l).toArray := by
  rw [fold_over]
  apply Array.ext_getElem?
  intro i
  have h32 : (cells8 l).length = 32 := by rw [cells8_length, hl]
  by_cases hi : i < 32
  · have h1 := laidOver_new (cells8 l) 0 #[.int .u8 0, .int .u8 0, .int .u8 0, .int .u8 0, .int .u8 0, .int .u8 0, .int .u8 0, .int .u8 0, .int .u8 0, .int .u8 0, .int .u8 0, .int .u8 0, .int .u8 0, .int .u8 0, .int .u8 0, .int .u8 0, .int .u8 0, .int .u8 0, .int .u8 0, .int .u8 0, .int .u8 0, .int .u8 0, .int .u8 0, .int .u8 0, .int .u8 0, .int .u8 0, .int .u8 0, .int .u8 0, .int .u8 0, .int .u8 0, .int .u8 0, .int .u8 0] i (by omega) (by show 0 + i < 32; omega)
    rw [Nat.zero_add] at h1
    rw [h1]
    simp
  · rw [Array.getElem?_eq_none (by rw [laidOver_size]; show 32 ≤ i; omega), Array.getElem?_eq_none (by rw [List.size_toArray]; omega)]
theorem DIn.own' {w w1 : World} {v : Value} {L : List (List Nat)} {D : Nat} {e : List Nat} (h : DIn w v L D e w1) (o : Obj) : (w1.alloc o).ownsRow w.heap.size 24 32 v L.length (cellsD L) :=
  ownsRow_block h.c.own (fun g hg => Below.heap_alloc _ _ _ (h.c.own.lt g hg).2)
theorem DIn.snoc {w w1 w' : World} {v v' : Value} {L : List (List Nat)} {D : Nat} {e : List Nat} (h : DIn w v L D e w1) (o : Obj) (hgr : (w1.alloc o).grownBy w' v.ownBlock)
    (hown : w'.ownsRow w.heap.size 24 32 v' (L.length + 1) (cellsD L ++ cells8 e)) : CIn w v' (L ++ [e]) w' := by
  refine ⟨(h.c.below.alloc h.c.below.size o).grown hgr (by have := h.c.below.size; simp; omega) (fun k hk => (h.c.own.lt k hk).1), ?_⟩
  rw [List.length_append, List.length_singleton, cellsD_append, cellsD_one]
  exact hown
theorem news_at (w : World) (l : List Nat) : ∀ (j : Nat) (u : Value), (cells8 l)[j]? = some u → (w.alloc (.cells (cells8 l).toArray 24 (0, 0))).cell? ((⟨w.heap.size, 0, none⟩ : Addr).add j) = some u := by
  intro j u hj
  rw [add_zero, block_cell (alloc_new w _ _ rfl), List.getElem?_toArray]
  exact hj
attribute [local irreducible] digV Go.wpQuiet
set_option maxHeartbeats 2000000 in
set_option maxRecDepth 100000 in
theorem chainOf_calls (w : World) (a : Value) (xs : List (List Nat)) (hL : Laid w) (ha : DRow w a xs) (hx : xs.length ≤ 1000) :
    Calls Tryd.prog 21 #[a] w fun e w' => ∃ v, e = .returned v ∧ CIn w v (chainN xs xs.length) w' := by
  obtain ⟨i0, hi, hz0, hz1, hz2⟩ : ∃ i0, Tryd.prog.info? 24 = some i0 ∧ i0.zero = some (.agg zero32) ∧ i0.size = 32 ∧ i0.bytes = 32 := info_parts info24
  have HI := Lib.hid (And.intro hi (And.intro hz0 (And.intro hz1 hz2)))
  clear hi hz0 hz1 hz2
  have hdx : Digs xs := ha.1
  obtain ⟨oa, ca, rfl⟩ := ha.form
  have hlt := hL.lt
  have HL := Lib.hid hL
  clear hL
  go_enter Tryd.func21, Tryd.ntmps21
  go_wp2
  go_loopg [3, 8] xs.length (fun k v3 v8 wr => ∃ i : Nat, v8 = .int .i64 i ∧ i ≤ xs.length ∧ CIn w v3 (chainN xs i) wr ∧ k = xs.length - i)
  case atStart => exact ⟨0, rfl, by omega, ⟨Below.refl _ _, World.ownsRow_nil _ _ _ _⟩, rfl⟩
  case round =>
    obtain ⟨i, rfl, hi, R, rfl⟩ := hrel
    by_cases hil : i < xs.length
    · obtain ⟨l, hl⟩ : ∃ l, xs[i]? = some l := ⟨_, List.getElem?_eq_getElem hil⟩
      obtain ⟨p, rfl, hp, hl1, hl2⟩ := (ha.keepB (R.below.mono (Nat.le_refl _))).at' i l hl
      have c1 : (i : Int) < (xs.length : Int) := by omega
      have c3 : ((i : Int)).toNat = i := by omega
      have c4 : (0 : Int) ≤ (i : Int) := by omega
      have D := R.digest l hl1
      have hz8 : (cells8 l).length = 32 := by rw [cells8_length, hl1]
      have hcl := chainN_length xs i
      by_cases hi0 : i = 0
      · subst hi0
        go_wp2_with (first
          | (refine wpList_load_dig rfl (.tmp 11) rfl (p.add (0 * 32)) rfl l hl1 hp ?_)
          | (apply wpList_store_mid (ty := 24) (x := .tmp 5) (y := .tmp 12) (o := 0) (cells := (cells8 l).toArray); (case ho => exact rfl); (case hgd => exact rfl); (case hx => exact rfl); (case hy => exact digV_agg _); (case ht => exact there_32 (alloc_new _ _ _ rfl) rfl l hl1); (case hi => exact digV_size _ hl1); (case h1 => exact all_oneCell_toArray (cells8_one _)); show wpList _ _ _ _ _ ((wr.alloc (.cells zero32 24 (0, 0))).setCells wr.heap.size 0 (cells8 l)); generalize (wr.alloc (.cells zero32 24 (0, 0))).setCells wr.heap.size 0 (cells8 l) = w1 at D ⊢; generalize wr.heap.size = dd at D ⊢)
          | (refine wpList_load_row rfl 24 (.tmp 5) rfl dd rfl 24 (cells8 l).toArray (0, 0) (.array 32 5) D.d und24 rfl (digV_size _ hl1) ?_)
          | (simp only [fold_whole l hl1]; (with_reducible refine gate_builtin (b := .append) (xs := #[.tmp 22, .tmp 24]) rfl ?_); at_builtin; refine wpList_append_own_at _ rfl (.tmp 22) (.tmp 24) 42 rfl w.heap.size 24 i0 (.agg zero32) 32 32 Tryd.underlying42 HI.out.1 HI.out.2.1 HI.out.2.2.1 HI.out.2.2.2 rfl (by decide) u3 _ _ rfl (D.own' _) ⟨w1.heap.size, 0, none⟩ 1 1 (cells8 l) rfl (by rw [cells8_length, hl1]) (news_at w1 l) (cells8_one l) (by rw [chainN_length]; unfold maxLen; omega) (by rw [chainN_length]; omega) (by have := D.c.below.size; simp; omega) ?_; intro v' w' hown hgr hnil hat))
        have C := D.snoc _ hgr hown
        have hch : chainN xs 0 ++ [l] = chainN xs (0 + 1) := by
          rw [chainN_succ, show chAt xs 0 = xs.getD 0 [] from rfl, List.getD_eq_getElem?_getD, hl]
          rfl
        rw [hch] at C
        go_roundg (xs.length - (0 + 1))
        case measure => omega
        case rel => exact ⟨0 + 1, rfl, by omega, C, rfl⟩
      · have hdg := chainN_dig hdx i hi
        have hrow := DRow_of_own hdg R.own
        obtain ⟨ou, cu, rfl⟩ := hrow.form
        obtain ⟨q, rfl, hq, hp1, hp2⟩ := hrow.at' (i - 1) (chAt xs (i - 1)) (chainN_get xs i (i - 1) (by omega))
        obtain ⟨f, hf⟩ : ∃ f, f = nextD (chAt xs (i - 1)) l := ⟨_, rfl⟩
        have hf1 : f.length = 32 := by rw [hf]; exact nextD_length _ _
        have hfz : (cells8 f).length = 32 := by rw [cells8_length, hf1]
        have hch : chainN xs i ++ [f] = chainN xs (i + 1) := by
          rw [chainN_succ, hf]
          obtain ⟨k, rfl⟩ : ∃ k, i = k + 1 := ⟨i - 1, by omega⟩
          rw [show chAt xs (k + 1) = nextD (chAt xs k) (xs.getD (k + 1) []) from rfl, List.getD_eq_getElem?_getD, hl]
          rfl
        have HC := Lib.hid hch
        have HF := Lib.hid hf
        have hqB : ∀ w2, Below wr.heap.size wr w2 → DigAt w2 (q.add ((i - 1) * 32)) (chAt xs (i - 1)) := fun w2 hB j v hj => by
          have := hq j v hj
          rw [hB.cell (block_lt_of_cell this)]
          exact this
        have HQ := Lib.hid hqB
        have hB1 : Below wr.heap.size wr ((wr.alloc (.cells zero32 24 (0, 0))).setCells wr.heap.size 0 (cells8 l)) := setCells_below _ _ _ _ _ (Nat.le_refl _) ((Below.refl _ _).alloc (Nat.le_refl _) _)
        have Q1 := hqB _ hB1
        clear hch hf hqB hB1 hrow hdg
        rw [hcl] at D
        generalize chAt xs (i - 1) = g at *
        have d1 : IntKind.i64.wrap ((i : Int) - 1) = (i : Int) - 1 := by rw [IntKind.wrap_i64]; omega
        have d2 : ((i : Int) - 1).toNat = i - 1 := by omega
        have d3 : (1 : Int) ≤ (i : Int) := by omega
        have d4 : (i : Int) - 1 < (i : Int) := by omega
        have d5 : (0 : Int) < (i : Int) := by omega
        go_wp2_with (first
          | (refine wpList_load_dig rfl (.tmp 11) rfl (p.add (i * 32)) rfl l hl1 hp ?_)
          | (apply wpList_store_mid (ty := 24) (x := .tmp 5) (y := .tmp 12) (o := 0) (cells := (cells8 l).toArray); (case ho => exact rfl); (case hgd => exact rfl); (case hx => exact rfl); (case hy => exact digV_agg _); (case ht => exact there_32 (alloc_new _ _ _ rfl) rfl l hl1); (case hi => exact digV_size _ hl1); (case h1 => exact all_oneCell_toArray (cells8_one _)); show wpList _ _ _ _ _ ((wr.alloc (.cells zero32 24 (0, 0))).setCells wr.heap.size 0 (cells8 l)); generalize (wr.alloc (.cells zero32 24 (0, 0))).setCells wr.heap.size 0 (cells8 l) = w1 at D Q1 ⊢; generalize wr.heap.size = dd at D ⊢))
        refine QT.wp_region_below_tail 7 (by kernel_rfl) (by kernel_rfl) ?_
        simp only [List.take_succ_cons, List.take_zero, List.drop_succ_cons, List.drop_zero]
        quiet_step (fail)
        quiet_step (fail)
        quiet_step (fail)
        quiet_step (fail)
        refine wpQuiet_load_dig (by kernel_rfl) (.tmp 18) rfl (q.add ((i - 1) * 32)) rfl g hp1 (by rintro _ ⟨k, rfl⟩; intro j v hj; have := Q1 j v hj; rw [(below_regrown w1 k.d k.os).cell (block_lt_of_cell this)]; exact this) ?_
        refine wpQuiet_load_rowG (by kernel_rfl) 24 (.tmp 5) rfl dd rfl 24 (cells8 l).toArray (0, 0) (.array 32 5) (by rintro _ ⟨k, rfl⟩; exact (D.keepB (below_regrown w1 k.d k.os)).d) und24 rfl (digV_size _ hl1) (v := digV l) (digV_agg _) ?_
        quiet_step ((go_at_call 24; exact Calls.regrown_of (next_calls _ g l ((HL.out.of_below D.c.below hlt).regrown _ _) hp1 hl1 hp2 hl2)))
        refine wpQuiet_nil ?_
        intro w3 hw'
        obtain ⟨pq, hw''⟩ := hw'
        have D3 := D.keepB (below_regrown w1 pq.d pq.os)
        rw [← hw''] at D3
        clear hw'' D Q1
        rw [← HF.out]
        have D4 := D3.put hl1 f hf1
        refine wpList_store_mid rfl 24 (.tmp 5) (.tmp 21) rfl dd 0 (cells8 f).toArray rfl (digV_agg _) (there_old D3.d (by rw [List.size_toArray, List.size_toArray, hz8, hfz])) (digV_size _ hf1) (all_oneCell_toArray (cells8_one _)) ?_
        show wpList _ _ _ _ _ (w3.setCells dd 0 (cells8 f))
        generalize w3.setCells dd 0 (cells8 f) = w4 at D4 ⊢
        clear D3
        go_wp2_with (first
          | (refine wpList_load_row rfl 24 (.tmp 5) rfl dd rfl 24 (cells8 f).toArray (0, 0) (.array 32 5) D4.d und24 rfl (digV_size _ hf1) ?_)
          | (simp only [fold_whole f hf1]; (with_reducible refine gate_builtin (b := .append) (xs := #[.tmp 22, .tmp 24]) rfl ?_); at_builtin; refine wpList_append_own_at _ rfl (.tmp 22) (.tmp 24) 42 rfl w.heap.size 24 i0 (.agg zero32) 32 32 Tryd.underlying42 HI.out.1 HI.out.2.1 HI.out.2.2.1 HI.out.2.2.2 rfl (by decide) (.slice (some q) i cu) _ _ rfl (D4.own' _) ⟨w4.heap.size, 0, none⟩ 1 1 (cells8 f) rfl (by rw [cells8_length, hf1]) (news_at w4 f) (cells8_one f) (by rw [chainN_length]; unfold maxLen; omega) (by rw [chainN_length]; omega) (by have := D4.c.below.size; simp; omega) ?_; intro v' w' hown hgr hnil hat))
        have C := D4.snoc _ hgr hown
        rw [HC.out] at C
        go_roundg (xs.length - (i + 1))
        case measure => clear d1 d2 d3 d4 d5 c1 c3 c4; omega
        case rel => exact ⟨i + 1, by simp, by clear d1 d2 d3 d4 d5 c1 c3 c4; omega, C, rfl⟩
    · have hix : i = xs.length := by omega
      subst hix
      go_wp2
      go_ret
      exact ⟨_, rfl, R⟩
end Go.Proofs.YtegjphfkkafomaaDoor.Sha
/- ShaNone: the walk. -/
namespace Go.Proofs.YtegjphfkkafomaaDoor.Sha
open Go.RowKit Go.Proofs Go.Proofs.YtegjphfkkafomaaDoor.Q Go.Proofs.YtegjphfkkafomaaDoorW.PrintWords Go.Proofs.YtegjphfkkafomaaDoorW.PrintLast Go.Proofs.YtegjphfkkafomaaDoorW.PrintMore

theorem NoH.keep {w w' : World} {v : Value} (h : NoH w v) (hB : Below w.heap.size w w') : NoH w' v := by
  rcases h with rfl | ⟨p, rfl, h0, h1⟩
  · exact .inl rfl
  · exact .inr ⟨p, rfl, by rw [hB.cell (block_lt_of_cell h0)]; exact h0, by rw [hB.cell (block_lt_of_cell h1)]; exact h1⟩
theorem zeroD_val : Value.agg #[.int .u8 0, .int .u8 0, .int .u8 0, .int .u8 0, .int .u8 0, .int .u8 0, .int .u8 0, .int .u8 0, .int .u8 0, .int .u8 0, .int .u8 0, .int .u8 0, .int .u8 0, .int .u8 0, .int .u8 0, .int .u8 0, .int .u8 0, .int .u8 0, .int .u8 0, .int .u8 0, .int .u8 0, .int .u8 0, .int .u8 0, .int .u8 0, .int .u8 0, .int .u8 0, .int .u8 0, .int .u8 0, .int .u8 0, .int .u8 0, .int .u8 0, .int .u8 0] = digV zeroD := by kernel_rfl
theorem neq_zero (w : World) : (Go.binOp .neq 24 (digV zeroD) (Value.agg #[.int .u8 0, .int .u8 0, .int .u8 0, .int .u8 0, .int .u8 0, .int .u8 0, .int .u8 0, .int .u8 0, .int .u8 0, .int .u8 0, .int .u8 0, .int .u8 0, .int .u8 0, .int .u8 0, .int .u8 0, .int .u8 0, .int .u8 0, .int .u8 0, .int .u8 0, .int .u8 0, .int .u8 0, .int .u8 0, .int .u8 0, .int .u8 0, .int .u8 0, .int .u8 0, .int .u8 0, .int .u8 0, .int .u8 0, .int .u8 0, .int .u8 0, .int .u8 0])).run Tryd.prog w = .ok (.bool false) w := by
  rw [zeroD_val]
  exact neq_same zeroD rfl (by decide) w
theorem guard_zero (op : BinOp) (x y : Operand) (l : List Nat) (w : World) : (eqGuard op 24 x y (digV l) (Value.agg #[.int .u8 0, .int .u8 0, .int .u8 0, .int .u8 0, .int .u8 0, .int .u8 0, .int .u8 0, .int .u8 0, .int .u8 0, .int .u8 0, .int .u8 0, .int .u8 0, .int .u8 0, .int .u8 0, .int .u8 0, .int .u8 0, .int .u8 0, .int .u8 0, .int .u8 0, .int .u8 0, .int .u8 0, .int .u8 0, .int .u8 0, .int .u8 0, .int .u8 0, .int .u8 0, .int .u8 0, .int .u8 0, .int .u8 0, .int .u8 0, .int .u8 0, .int .u8 0])).run Tryd.prog w = .ok () w := by
  rw [zeroD_val]
  exact guard_dig op x y l zeroD w
attribute [local irreducible] digV
set_option maxHeartbeats 1000000 in
set_option maxRecDepth 100000 in
theorem shaNone_calls (w : World) (s : ByteArray) (hL : Laid w) : Calls Tryd.prog 5 #[.string s] w fun e w' => e = .returned (.bool true) ∧ Below w.heap.size w w' := by
  have hlt := hL.lt
  have HL := Lib.hid hL
  clear hL
  have hneq := neq_zero
  have hgd := guard_zero
  go_enter Tryd.func5, Tryd.ntmps5
  go_wp2
  go_loopg [3, 4] 2 (fun k v3 v4 wr => ∃ t : Nat, v4 = .int .i64 t ∧ t ≤ 2 ∧ NoH wr v3 ∧ Below w.heap.size w wr ∧ k = 2 - t)
  case atStart => exact ⟨0, rfl, by omega, .inl rfl, Below.refl _ _, rfl⟩
  case round =>
    obtain ⟨t, rfl, ht, N, hB, rfl⟩ := hrel
    by_cases h2 : t < 2
    · go_wp2_with (first
        | (go_at_call 14; refine (write_none wr _ s N).mono ?_; rintro e w2 ⟨rfl, rfl⟩)
        | (go_at_call 15; refine (sum_none _ _ N).mono ?_; rintro e w3 ⟨rfl, hB3⟩; have N3 := N.keep hB3; have hB3' := hB.trans (hB3.mono hB.size))
        | (go_at_call 16; refine (size_none w3 _ N3).mono ?_; rintro e w4 ⟨rfl, rfl⟩)
        | (go_at_call 13; refine (copy_none _ _ N3).mono ?_; rintro e w5 ⟨rfl, rfl⟩))
      go_roundg (2 - (t + 1))
      case measure => omega
      case rel => exact ⟨t + 1, by simp, by omega, .inr ⟨w5.heap.size, rfl, block_cell (alloc_new w5 _ _ rfl) 0, block_cell (alloc_new w5 _ _ rfl) 10⟩, hB3'.alloc hB3'.size _, rfl⟩
    · go_wp2_with (go_at_call 9; refine (hashed_calls _ (HL.out.of_below hB hlt)).mono ?_; rintro e w2 ⟨rfl, hB2⟩)
      go_ret
      exact ⟨rfl, hB.trans (hB2.mono hB.size)⟩
end Go.Proofs.YtegjphfkkafomaaDoor.Sha
/- The last chain ID: the program's walk. -/
namespace Go.Proofs.YtegjphfkkafomaaDoor.Sha
open Go.RowKit Go.Proofs Go.Proofs.YtegjphfkkafomaaDoor.Q Go.Proofs.YtegjphfkkafomaaDoorW.PrintWords Go.Proofs.YtegjphfkkafomaaDoorW.PrintLast Go.Proofs.YtegjphfkkafomaaDoorW.PrintMore

theorem results_cell_tmp {P : Program} {fn : Func} {p q : Tmp} {ty : TypeId} (h : fn.results = #[.cell p ty, .tmp q]) (tmps : Array Value) (w : World) (g : Nat) (t : TypeId) (cs : Array Value) (fr : Nat × Nat) (d : TypeDesc) (v : Value)
    (hp : tmps.getD p undef = .pointer (some ⟨g, 0, none⟩)) (hq : tmps.getD q undef = v) (hg : w.heap[g]? = some (.cells cs t fr))
    (hu : P.underlying ty = some d) (hd : (match d with | .struct _ | .array _ _ => true | _ => false) = true) (hi : (P.info? ty).map (·.size) = some cs.size) :
    (results fn tmps).run P w = .ok (.tuple #[.agg cs, v]) w := by
  have hp' : tmps[p]?.getD undef = .pointer (some ⟨g, 0, none⟩) := by simpa using hp
  have hq' : tmps[q]?.getD undef = v := by simpa using hq
  simp [results, h, hp', hq', asAddr, run_loadVar_row w g t ty cs fr d hg hu hd hi]
theorem zero_lit : Value.agg #[.int .u8 0, .int .u8 0, .int .u8 0, .int .u8 0, .int .u8 0, .int .u8 0, .int .u8 0, .int .u8 0, .int .u8 0, .int .u8 0, .int .u8 0, .int .u8 0, .int .u8 0, .int .u8 0, .int .u8 0, .int .u8 0, .int .u8 0, .int .u8 0, .int .u8 0, .int .u8 0, .int .u8 0, .int .u8 0, .int .u8 0, .int .u8 0, .int .u8 0, .int .u8 0, .int .u8 0, .int .u8 0, .int .u8 0, .int .u8 0, .int .u8 0, .int .u8 0] = .agg (cells8 zeroD).toArray := by kernel_rfl
attribute [local irreducible] digV Go.wpQuiet
theorem CIn.form {w w2 : World} {v : Value} {L : List (List Nat)} (h : CIn w v L w2) : ∃ o c, v = .slice o L.length c := by
  rcases h.own.2 with ⟨h1, h2⟩ | ⟨g, cap, cur, h1, _⟩
  · exact ⟨none, 0, by rw [h1, h2]⟩
  · exact ⟨_, cap, h1⟩
set_option maxHeartbeats 2000000 in
set_option maxRecDepth 100000 in
theorem top_nil (w : World) (v0 : Value) (hL : Laid w) (ha0 : DRow w v0 []) : Calls Tryd.prog 19 #[v0] w fun e w' => e = .returned (.tuple #[digV zeroD, .bool false]) ∧ Below w.heap.size w w' := by
  have hlt := hL.lt
  have hB0 : ∀ o, Below w.heap.size w (w.alloc o) := fun o => (Below.refl _ _).alloc (Nat.le_refl _) o
  have HL := Lib.hid (show ∀ o, Laid (w.alloc o) from fun o => hL.of_below (hB0 o) hlt)
  have HA := Lib.hid (show ∀ o, DRow (w.alloc o) v0 [] from fun o => ha0.keepB (hB0 o))
  have HB := Lib.hid hB0
  clear hL ha0 hB0
  go_enter Tryd.func19, Tryd.ntmps19
  go_wp2_with (first
    | (go_at_call 21; refine (chainOf_calls _ _ [] (HL.out _) (HA.out _) (by decide)).mono ?_; rintro e w2 ⟨v, rfl, C2⟩; have hd := (C2.below.block w.heap.size (by simp)).trans (alloc_new w _ _ rfl); have hB2 := (HB.out _).trans (C2.below.mono (HB.out _).size); obtain ⟨o, c, rfl⟩ := C2.form; have hn : (chainN [] ([] : List (List Nat)).length).length = 0 := rfl; rw [hn])
    | (refine wpList_store_mid rfl 24 (.tmp 2) (.tmp 10) rfl w.heap.size 0 (cells8 zeroD).toArray rfl zero_lit (there_32 hd rfl zeroD rfl) size24 (all_oneCell_toArray (cells8_one _)) ?_))
  refine bodyPost_ret (v := .tuple #[.agg (cells8 zeroD).toArray, .bool false]) ?_ rfl ⟨by rw [digV_agg], setCells_below _ _ _ _ _ (Nat.le_refl _) hB2⟩
  exact results_cell_tmp Tryd.results19 _ _ w.heap.size 24 (cells8 zeroD).toArray (0, 0) (.array 32 5) (.bool false) rfl rfl (setCells_whole _ _ _ hd rfl) und24 rfl size24
end Go.Proofs.YtegjphfkkafomaaDoor.Sha
/- The last chain ID of a list that is not empty: the program's walk. -/
namespace Go.Proofs.YtegjphfkkafomaaDoor.Sha
open Go.RowKit Go.Proofs Go.Proofs.YtegjphfkkafomaaDoor.Q Go.Proofs.YtegjphfkkafomaaDoorW.PrintWords Go.Proofs.YtegjphfkkafomaaDoorW.PrintLast Go.Proofs.YtegjphfkkafomaaDoorW.PrintMore

attribute [local irreducible] digV Go.wpQuiet
set_option maxHeartbeats 2000000 in
set_option maxRecDepth 100000 in
theorem top_some (w : World) (v0 : Value) (xs : List (List Nat)) (hL : Laid w) (ha0 : DRow w v0 xs) (h0 : 0 < xs.length) (hx : xs.length ≤ 1000) :
    Calls Tryd.prog 19 #[v0] w fun e w' => e = .returned (.tuple #[digV (chAt xs (xs.length - 1)), .bool true]) ∧ Below w.heap.size w w' := by
  have hlt := hL.lt
  have hdx : Digs xs := ha0.1
  have hB0 : ∀ o, Below w.heap.size w (w.alloc o) := fun o => (Below.refl _ _).alloc (Nat.le_refl _) o
  have HL := Lib.hid (show ∀ o, Laid (w.alloc o) from fun o => hL.of_below (hB0 o) hlt)
  have HA := Lib.hid (show ∀ o, DRow (w.alloc o) v0 xs from fun o => ha0.keepB (hB0 o))
  have HB := Lib.hid hB0
  clear hL ha0 hB0
  obtain ⟨n, hn⟩ : ∃ n, n = xs.length := ⟨_, rfl⟩
  obtain ⟨l, hl⟩ : ∃ l, l = chAt xs (n - 1) := ⟨_, rfl⟩
  have hl12 := chAt_dig hdx (n - 1) (by omega)
  rw [← hl] at hl12
  obtain ⟨hl1, hl2⟩ := hl12
  have hl8 : (cells8 l).length = 32 := by rw [cells8_length, hl1]
  have d1 : IntKind.i64.wrap ((n : Int) - 1) = (n : Int) - 1 := by rw [IntKind.wrap_i64]; omega
  have d2 : ((n : Int) - 1).toNat = n - 1 := by omega
  have d3 : (0 : Int) ≤ (n : Int) - 1 := by omega
  have d4 : (n : Int) - 1 < (n : Int) := by omega
  have d6 : ¬ (n : Int) = 0 := by omega
  have d7 : ((n : Int) == 0) = false := beq_eq_false_iff_ne.mpr d6
  have d8 : (1 : Int) ≤ (n : Int) := by omega
  have d9 : (0 : Int) < (n : Int) := by omega
  rw [← hn, ← hl]
  have HN := Lib.hid hn
  have HLL := Lib.hid hl
  clear hn hl
  go_enter Tryd.func19, Tryd.ntmps19
  go_wp2_with (first
    | (go_at_call 21; refine (chainOf_calls _ _ xs (HL.out _) (HA.out _) hx).mono ?_; rintro e w2 ⟨v, rfl, C2⟩; have hd := (C2.below.block w.heap.size (by simp)).trans (alloc_new w _ _ rfl); have hB2 := (HB.out _).trans (C2.below.mono (HB.out _).size); obtain ⟨o, c, rfl⟩ := C2.form; have hrow := DRow_of_own (chainN_dig hdx _ (Nat.le_refl _)) C2.own; rw [chainN_length, ← HN.out] at hrow C2 ⊢; have hat := hrow.at' (n - 1) l (by rw [HLL.out]; exact chainN_get xs n (n - 1) (by omega)); obtain ⟨q, rfl, hq, _, _⟩ := hat)
    | (refine wpList_load_dig rfl (.tmp 15) rfl (q.add ((n - 1) * 32)) rfl l hl1 hq ?_; rw [digV_agg])
    | (refine wpList_store_mid rfl 24 (.tmp 2) (.tmp 16) rfl w.heap.size 0 (cells8 l).toArray rfl rfl (there_32 hd rfl l hl1) (digV_size _ hl1) (all_oneCell_toArray (cells8_one _)) ?_))
  refine bodyPost_ret (v := .tuple #[.agg (cells8 l).toArray, .bool true]) ?_ rfl ⟨by rw [digV_agg], setCells_below _ _ _ _ _ (Nat.le_refl _) hB2⟩
  exact results_cell_tmp Tryd.results19 _ _ w.heap.size 24 (cells8 l).toArray (0, 0) (.array 32 5) (.bool true) rfl rfl (setCells_whole _ _ _ hd (by rw [List.size_toArray, hl8]; rfl)) und24 rfl (digV_size _ hl1)
end Go.Proofs.YtegjphfkkafomaaDoor.Sha
/- The chapter's layers: one chain ID, by evaluation. -/
namespace Go.Proofs.YtegjphfkkafomaaDoor.Sha
open Go.RowKit Go.Proofs Go.Proofs.YtegjphfkkafomaaDoor.Q Go.Proofs.YtegjphfkkafomaaDoorW.PrintWords Go.Proofs.YtegjphfkkafomaaDoorW.PrintLast Go.Proofs.YtegjphfkkafomaaDoorW.PrintMore

def oneD : List Nat := 1 :: List.replicate 31 0
def oneM : List Nat := [115, 104, 97, 50, 53, 54, 58, 48, 49, 48, 48, 48, 48, 48, 48, 48, 48, 48, 48, 48, 48, 48, 48, 48, 48, 48, 48, 48, 48, 48, 48, 48, 48, 48, 48, 48, 48, 48, 48, 48, 48, 48, 48, 48, 48, 48, 48, 48, 48, 48, 48, 48, 48, 48, 48, 48, 48, 48, 48, 48, 48, 48, 48, 48, 48, 48, 48, 48, 48, 48, 48, 32, 115, 104, 97, 50, 53, 54, 58, 48, 49, 48, 48, 48, 48, 48, 48, 48, 48, 48, 48, 48, 48, 48, 48, 48, 48, 48, 48, 48, 48, 48, 48, 48, 48, 48, 48, 48, 48, 48, 48, 48, 48, 48, 48, 48, 48, 48, 48, 48, 48, 48, 48, 48, 48, 48, 48, 48, 48, 48, 48, 48, 48, 48, 48, 48, 48, 48, 48, 48, 48, 48, 48, 128, 0, 0, 0, 0, 0, 0, 0, 0, 0, 0, 0, 0, 0, 0, 0, 0, 0, 0, 0, 0, 0, 0, 0, 0, 0, 0, 0, 0, 0, 0, 0, 0, 0, 0, 0, 0, 0, 0, 0, 0, 0, 0, 0, 0, 0, 0, 4, 120]
theorem one_block1 : blockN beginN (fun i => fB oneM (64 * 0 + i)) = ⟨1220121781, 3192765020, 3540483199, 1431835647, 216298200, 3311815813, 2936211801, 4160704727⟩ := by
  rw [evB_eq]
  kernel_rfl
theorem one_block2 : blockN ⟨1220121781, 3192765020, 3540483199, 1431835647, 216298200, 3311815813, 2936211801, 4160704727⟩ (fun i => fB oneM (64 * 1 + i)) = ⟨1727807710, 1753155663, 986662126, 700417230, 1181283540, 997968647, 4116344213, 469695912⟩ := by
  rw [evB_eq]
  kernel_rfl
theorem one_block3 : blockN ⟨1727807710, 1753155663, 986662126, 700417230, 1181283540, 997968647, 4116344213, 469695912⟩ (fun i => fB oneM (64 * 2 + i)) = ⟨1254532696, 1651135729, 2235706127, 3088410280, 2099433057, 3127949764, 3760102457, 2244502902⟩ := by
  rw [evB_eq]
  kernel_rfl
theorem one_text : byN (joinS oneD oneD) ++ endN ((byN (joinS oneD oneD)).length % 64) (joinS oneD oneD).size = oneM := by kernel_rfl
set_option maxRecDepth 100000 in
theorem one_next : nextD oneD oneD = [74, 198, 166, 88, 98, 106, 84, 241, 133, 66, 43, 15, 184, 21, 102, 168, 125, 34, 206, 97, 186, 112, 185, 196, 224, 30, 156, 57, 133, 200, 101, 118] := by
  unfold nextD sumN
  rw [one_text, show oneM.length / 64 = 3 from by kernel_rfl]
  show dig (blockN (blockN (blockN beginN (fun i => fB oneM (64 * 0 + i))) (fun i => fB oneM (64 * 1 + i))) (fun i => fB oneM (64 * 2 + i))) = _
  rw [one_block1, one_block2, one_block3]
  kernel_rfl
theorem one_ne : nextD oneD oneD ≠ oneD := by
  rw [one_next]
  decide
end Go.Proofs.YtegjphfkkafomaaDoor.Sha
/- The chapter's layers: the walk. -/
namespace Go.Proofs.YtegjphfkkafomaaDoor.Sha
open Go.RowKit Go.Proofs Go.Proofs.YtegjphfkkafomaaDoor.Q Go.Proofs.YtegjphfkkafomaaDoorW.PrintWords Go.Proofs.YtegjphfkkafomaaDoorW.PrintLast Go.Proofs.YtegjphfkkafomaaDoorW.PrintMore

set_option maxHeartbeats 1000000 in
theorem chainOf_nil (w : World) : Calls Tryd.prog 21 #[.slice none 0 0] w fun e w' => e = .returned (.slice none 0 0) ∧ Below w.heap.size w w' := by
  go_enter Tryd.func21, Tryd.ntmps21
  go_wp2
  go_loopg [3, 8] 0 (fun k v3 v8 wr => v3 = .slice none 0 0 ∧ v8 = .int .i64 0 ∧ wr = w ∧ k = 0)
  case atStart => exact ⟨rfl, rfl, rfl, rfl⟩
  case round =>
    obtain ⟨rfl, rfl, rfl, rfl⟩ := hrel
    go_wp2
    go_ret
    exact ⟨rfl, Below.refl _ _⟩
theorem one_val : Value.agg #[.int .u8 1, .int .u8 0, .int .u8 0, .int .u8 0, .int .u8 0, .int .u8 0, .int .u8 0, .int .u8 0, .int .u8 0, .int .u8 0, .int .u8 0, .int .u8 0, .int .u8 0, .int .u8 0, .int .u8 0, .int .u8 0, .int .u8 0, .int .u8 0, .int .u8 0, .int .u8 0, .int .u8 0, .int .u8 0, .int .u8 0, .int .u8 0, .int .u8 0, .int .u8 0, .int .u8 0, .int .u8 0, .int .u8 0, .int .u8 0, .int .u8 0, .int .u8 0] = digV oneD := by kernel_rfl
theorem oneD_lt : ∀ x ∈ oneD, x < 256 := by decide
theorem one_digs : Digs [oneD, oneD] := by
  intro l hl
  simp at hl
  subst hl
  exact ⟨rfl, oneD_lt⟩
/-- A new block of digests reads as them. -/
theorem DRow_new (w : World) (cs : Array Value) (t : TypeId) (fr : Nat × Nat) (L : List (List Nat)) (c : Nat) (hd : Digs L) (h : cs.toList = cellsD L) : DRow (w.alloc (.cells cs t fr)) (.slice (some ⟨w.heap.size, 0, none⟩) L.length c) L := by
  refine ⟨hd, .inr ⟨⟨w.heap.size, 0, none⟩, c, rfl, fun i l hi j v hj => ?_⟩⟩
  rw [add_add, block_cell (alloc_new w _ _ rfl), ← Array.getElem?_toList, h]
  exact cellsD_get L i l hd hi j v hj
theorem one_chain : chainN [oneD, oneD] [oneD, oneD].length = [oneD, nextD oneD oneD] := rfl
/-- What stands ahead of the asking. -/
structure OI (w : World) (v : Value) (wr : World) : Prop where
  below : Below w.heap.size w wr
  laid : Laid wr
  d : wr.heap[w.heap.size]? = some (.cells (cells8 oneD).toArray 24 (0, 0))
  row : DRow wr v [oneD, nextD oneD oneD]
theorem OI.keepB {w w2 w3 : World} {v : Value} (h : OI w v w2) (hB : Below w2.heap.size w2 w3) : OI w v w3 :=
  ⟨h.below.trans (hB.mono h.below.size), h.laid.of_below hB h.laid.lt, by rw [hB.block _ (lt_of_block h.d)]; exact h.d, h.row.keepB hB⟩
theorem OI.of_chain {w w1 w2 : World} {v : Value} {o : Obj} (hL : Laid w) (D : DIn w (.slice none 0 0) [] w.heap.size oneD w1) (C : CIn (w1.alloc o) v (chainN [oneD, oneD] [oneD, oneD].length) w2) : OI w v w2 := by
  have hB1 : Below w1.heap.size w1 (w1.alloc o) := (Below.refl _ _).alloc (Nat.le_refl _) o
  have hB := hB1.trans (C.below.mono (hB1.size))
  have D2 := D.keepB hB
  refine ⟨D2.c.below, hL.of_below D2.c.below hL.lt, D2.d, ?_⟩
  have := DRow_of_own (chainN_dig one_digs _ (Nat.le_refl _)) C.own
  rwa [one_chain] at this
attribute [local irreducible] digV Go.wpQuiet nextD
set_option maxHeartbeats 2000000 in
set_option maxRecDepth 100000 in
theorem chained_calls (w : World) (hL : Laid w) : Calls Tryd.prog 17 #[] w fun e w' => e = .returned (.bool true) ∧ Below w.heap.size w w' := by
  have hlt := hL.lt
  have HL := Lib.hid hL
  clear hL
  go_enter Tryd.func17, Tryd.ntmps17
  go_wp2_with (first
    | (refine wpList_store_mid rfl 24 (.tmp 1) (.tmp 5) rfl w.heap.size 0 (cells8 oneD).toArray rfl (by kernel_rfl) (there_32 (alloc_new w _ _ rfl) rfl oneD rfl) size24 (all_oneCell_toArray (cells8_one _)) ?_; show wpList _ _ _ _ _ ((w.alloc (.cells zero32 24 (0, 0))).setCells w.heap.size 0 (cells8 oneD)); have D1 := (show CIn w (.slice none 0 0) [] w from ⟨Below.refl _ _, World.ownsRow_nil _ _ _ _⟩).digest oneD rfl; generalize (w.alloc (.cells zero32 24 (0, 0))).setCells w.heap.size 0 (cells8 oneD) = w1 at D1 ⊢; rw [one_val, digV_agg])
    | (refine wpList_load_row rfl 24 (.tmp 1) rfl w.heap.size rfl 24 (cells8 oneD).toArray (0, 0) (.array 32 5) D1.d und24 rfl size24 ?_)
    | (go_at_call 21; refine (chainOf_calls _ _ [oneD, oneD] (HL.out.of_below (D1.c.below.alloc D1.c.below.size _) hlt) (DRow_new w1 _ _ _ [oneD, oneD] 2 one_digs (by kernel_rfl)) (by decide)).mono ?_; rintro e w2 ⟨v, rfl, C2⟩; have O2 := OI.of_chain HL.out D1 C2; clear C2 D1)
    | (go_at_call 19; refine (top_nil w2 _ O2.laid ⟨(fun l hl => by cases hl), .inl ⟨rfl, rfl⟩⟩).mono ?_; rintro e w3 ⟨rfl, hB3⟩; have O3 := O2.keepB hB3; clear O2 hB3)
    | (apply wpList_store_mid (ty := 24) (x := .tmp 3) (y := .tmp 12) (o := 0) (cells := (cells8 zeroD).toArray); (case ho => exact rfl); (case hgd => exact rfl); (case hx => exact rfl); (case hy => exact digV_agg _); (case ht => exact there_32 (alloc_new _ _ _ rfl) rfl zeroD rfl); (case hi => exact size24); (case h1 => exact all_oneCell_toArray (cells8_one _)); have O4 := O3.keepB (setCells_below (g := w3.heap.size) (cells8 zeroD) 0 _ _ _ (Nat.le_refl _) ((Below.refl _ w3).alloc (Nat.le_refl _) (.cells zero32 24 (0, 0)))); show wpList _ _ _ _ _ ((w3.alloc (.cells zero32 24 (0, 0))).setCells w3.heap.size 0 (cells8 zeroD)); generalize (w3.alloc (.cells zero32 24 (0, 0))).setCells w3.heap.size 0 (cells8 zeroD) = w4 at O4 ⊢))
  have hr := O4.row
  have hne := one_ne
  have hm1 : (nextD oneD oneD).length = 32 := nextD_length _ _
  have hm2 := nextD_lt oneD oneD
  obtain ⟨m, hm⟩ : ∃ m, m = nextD oneD oneD := ⟨_, rfl⟩
  have HM := Lib.hid hm
  rw [← hm] at hr hne hm1 hm2
  clear hm
  obtain ⟨o, c, rfl⟩ := hr.form
  obtain ⟨p, rfl, hp0, _, _⟩ := hr.at' 0 oneD rfl
  obtain ⟨p', hp', hp1, _, _⟩ := hr.at' 1 m rfl
  obtain rfl := Option.some.inj hp'
  have e1 := eql_same oneD rfl oneD_lt
  have e2 := eql_same m hm1 hm2
  have e3 := dig_neq_run hm1 rfl hm2 oneD_lt hne
  have hgd := guard_dig
  have HNX : ∀ d os, Calls Tryd.prog 24 #[digV oneD, digV oneD] (Go.Sort.grow (redrawn w4 d) os) fun e w' => e = .returned (digV m) ∧ Below (Go.Sort.grow (redrawn w4 d) os).heap.size (Go.Sort.grow (redrawn w4 d) os) w' := fun d os => by
    rw [HM.out]
    exact next_calls _ oneD oneD (O4.laid.regrown d os) rfl rfl oneD_lt oneD_lt
  have HN := Lib.hid HNX
  clear hr hne hp' HNX
  refine QT.wp_region_below_tail 35 (by kernel_rfl) (by kernel_rfl) ?_
  simp only [List.take_succ_cons, List.take_zero, List.drop_succ_cons, List.drop_zero]
  quiet_step (fail)
  quiet_step (fail)
  quiet_step (fail)
  quiet_step ((go_at_call 21; exact Calls.regrown_of (chainOf_nil _)))
  quiet_step (fail)
  quiet_step (fail)
  quiet_step (fail)
  quiet_step (fail)
  quiet_step (fail)
  quiet_step (fail)
  quiet_step (fail)
  quiet_step (fail)
  quiet_step (fail)
  quiet_step (fail)
  quiet_step (fail)
  refine wpQuiet_load_dig (by kernel_rfl) (.tmp 28) rfl (p.add (0 * 32)) rfl oneD rfl (by rintro _ ⟨k, rfl⟩; intro j u hj; have := hp0 j u hj; rw [(below_regrown w4 k.d k.os).cell (block_lt_of_cell this)]; exact this) ?_
  refine wpQuiet_load_rowG (by kernel_rfl) 24 (.tmp 1) rfl w.heap.size rfl 24 (cells8 oneD).toArray (0, 0) (.array 32 5) (by rintro _ ⟨k, rfl⟩; exact (O4.keepB (below_regrown w4 k.d k.os)).d) und24 rfl size24 (v := digV oneD) (digV_agg _) ?_
  quiet_step (fail)
  quiet_step (fail)
  quiet_step (fail)
  quiet_step (fail)
  quiet_step (fail)
  refine wpQuiet_load_dig (by kernel_rfl) (.tmp 35) rfl (p.add (1 * 32)) rfl m hm1 (by rintro _ ⟨k, rfl⟩; intro j u hj; have := hp1 j u hj; rw [(below_regrown w4 k.d k.os).cell (block_lt_of_cell this)]; exact this) ?_
  refine wpQuiet_load_rowG (by kernel_rfl) 24 (.tmp 1) rfl w.heap.size rfl 24 (cells8 oneD).toArray (0, 0) (.array 32 5) (by rintro _ ⟨k, rfl⟩; exact (O4.keepB (below_regrown w4 k.d k.os)).d) und24 rfl size24 (v := digV oneD) (digV_agg _) ?_
  quiet_step (fail)
  quiet_step (fail)
  quiet_step (fail)
  quiet_step (fail)
  quiet_step (fail)
  refine wpQuiet_load_dig (by kernel_rfl) (.tmp 42) rfl (p.add (1 * 32)) rfl m hm1 (by rintro _ ⟨k, rfl⟩; intro j u hj; have := hp1 j u hj; rw [(below_regrown w4 k.d k.os).cell (block_lt_of_cell this)]; exact this) ?_
  refine wpQuiet_load_rowG (by kernel_rfl) 24 (.tmp 1) rfl w.heap.size rfl 24 (cells8 oneD).toArray (0, 0) (.array 32 5) (by rintro _ ⟨k, rfl⟩; exact (O4.keepB (below_regrown w4 k.d k.os)).d) und24 rfl size24 (v := digV oneD) (digV_agg _) ?_
  refine wpQuiet_load_rowG (by kernel_rfl) 24 (.tmp 1) rfl w.heap.size rfl 24 (cells8 oneD).toArray (0, 0) (.array 32 5) (by rintro _ ⟨k, rfl⟩; exact (O4.keepB (below_regrown w4 k.d k.os)).d) und24 rfl size24 (v := digV oneD) (digV_agg _) ?_
  quiet_step ((go_at_call 24; exact Calls.regrown_of (HN.out _ _)))
  quiet_step (fail)
  quiet_step (fail)
  refine wpQuiet_nil ?_
  intro w5 hw'
  obtain ⟨pq, hw''⟩ := hw'
  have hB5 := O4.below.trans ((below_regrown w4 pq.d pq.os).mono O4.below.size)
  rw [← hw''] at hB5
  clear hw''
  go_wp2
  go_ret
  exact ⟨rfl, hB5⟩
end Go.Proofs.YtegjphfkkafomaaDoor.Sha
/- The chain IDs of a list: the reference's walk. -/
namespace Go.Proofs.YtegjphfkkafomaaDoor.Sha
open Go.RowKit Go.Proofs Go.Proofs.YtegjphfkkafomaaDoor.Q Go.Proofs.YtegjphfkkafomaaDoorW.PrintWords Go.Proofs.YtegjphfkkafomaaDoorW.PrintLast Go.Proofs.YtegjphfkkafomaaDoorW.PrintMore

theorem CIn.own' {w w1 : World} {v : Value} {L : List (List Nat)} (h : CIn w v L w1) (o : Obj) : (w1.alloc o).ownsRow w.heap.size 24 32 v L.length (cellsD L) :=
  ownsRow_block h.own (fun g hg => Below.heap_alloc _ _ _ (h.own.lt g hg).2)
theorem CIn.snoc {w w1 w' : World} {v v' : Value} {L : List (List Nat)} {e : List Nat} (h : CIn w v L w1) (o : Obj) (hgr : (w1.alloc o).grownBy w' v.ownBlock)
    (hown : w'.ownsRow w.heap.size 24 32 v' (L.length + 1) (cellsD L ++ cells8 e)) : CIn w v' (L ++ [e]) w' := by
  refine ⟨(h.below.alloc h.below.size o).grown hgr (by have := h.below.size; simp; omega) (fun k hk => (h.own.lt k hk).1), ?_⟩
  rw [List.length_append, List.length_singleton, cellsD_append, cellsD_one]
  exact hown
/-- append onto an own row, as one step of a region that draws. -/
theorem step_append_own {P : Program} {o : Oper} {a : Act} {w : World} {K : Act → World → Prop} {Q : Exit → Act → World → Prop} (s x : Operand) (t : TypeId)
    (ho : o.op = .call { callee := .builtin .append, args := #[s, x], argTypes := #[t, t] })
    (base : Nat) (e : TypeId) (i : TypeInfo) (z : Value) (size bytes : Nat) (ht : P.underlying t = some (.slice e)) (hi : P.info? e = some i) (hz : i.zero = some z)
    (hsize : i.size = size) (hby : i.bytes = bytes) (hzs : z.cells.size = size) (hsz : 0 < size)
    (v : Value) (n : Nat) (xs : List Value) (hs : a.eval s = v) (hown : w.ownsRow base e size v n xs)
    (ad : Addr) (m c : Nat) (news : List Value) (hx : a.eval x = .slice (some ad) m c) (hl : news.length = m * size) (hnews : ∀ j u, news[j]? = some u → w.cell? (ad.add j) = some u) (h1 : ∀ u ∈ news, u.oneCell' = true)
    (h63 : n + m ≤ maxLen) (hbytes : (n + m) * bytes ≤ 140737488355328) (hbase : base ≤ w.heap.size)
    (h : ∀ v' w', w'.ownsRow base e size v' (n + m) (xs ++ news) → w.grownBy w' v.ownBlock → K (a.put o.dst v') w') :
    Oper.wp P o a w K Q := by
  obtain ⟨v', w', hr, h2, h3, _, _⟩ := run_append_own_at (P := P) w base t o.type e i z size bytes ht hi hz hsize hby hzs hsz v n xs hown ad m c news hl hnews h1 h63 hbytes hbase
  unfold Oper.wp execOp
  simp only [ho, resolve, invoke, builtin, Sem.run_bind, Sem.run_pure, Result.andThen_ok, List.map_toArray, List.map_cons, List.map_nil, hs, hx, hr]
  exact h v' w' h2 h3
attribute [local irreducible] digV Go.wpQuiet
set_option maxHeartbeats 2000000 in
set_option maxRecDepth 100000 in
theorem refChainOf_calls (w : World) (a : Value) (xs : List (List Nat)) (ha : DRow w a xs) (hx : xs.length ≤ 1000) :
    Calls Tryd.prog 18 #[a] w fun e w' => ∃ v, e = .returned v ∧ CIn w v (chainN xs xs.length) w' := by
  obtain ⟨i0, hi, hz0, hz1, hz2⟩ : ∃ i0, Tryd.prog.info? 24 = some i0 ∧ i0.zero = some (.agg zero32) ∧ i0.size = 32 ∧ i0.bytes = 32 := info_parts info24
  have HI := Lib.hid (And.intro hi (And.intro hz0 (And.intro hz1 hz2)))
  clear hi hz0 hz1 hz2
  have hdx : Digs xs := ha.1
  obtain ⟨oa, ca, rfl⟩ := ha.form
  go_enter Tryd.func18, Tryd.ntmps18
  go_wp2
  go_loopg [3, 4] xs.length (fun k v3 v4 wr => ∃ i : Nat, v4 = .int .i64 i ∧ i ≤ xs.length ∧ CIn w v3 (chainN xs i) wr ∧ k = xs.length - i)
  case atStart => exact ⟨0, rfl, by omega, ⟨Below.refl _ _, World.ownsRow_nil _ _ _ _⟩, rfl⟩
  case round =>
    obtain ⟨i, rfl, hi, R, rfl⟩ := hrel
    by_cases hil : i < xs.length
    · obtain ⟨l, hl⟩ : ∃ l, xs[i]? = some l := ⟨_, List.getElem?_eq_getElem hil⟩
      obtain ⟨p, rfl, hp, hl1, hl2⟩ := (ha.keepB (R.below.mono (Nat.le_refl _))).at' i l hl
      have c1 : (i : Int) < (xs.length : Int) := by omega
      have c3 : ((i : Int)).toNat = i := by omega
      have c4 : (0 : Int) ≤ (i : Int) := by omega
      have hcl := chainN_length xs i
      have HS := Lib.hid R.below.size
      by_cases hi0 : i = 0
      · subst hi0
        have hz8 : (cells8 l).length = 32 := by rw [cells8_length, hl1]
        go_wp2_with (first
          | (refine wpList_load_dig rfl (.tmp 15) rfl (p.add (0 * 32)) rfl l hl1 hp ?_; rw [digV_agg])
          | (simp only [fold_whole l hl1]; (with_reducible refine gate_builtin (b := .append) (xs := #[.tmp 13, .tmp 17]) rfl ?_); at_builtin; refine wpList_append_own_at _ rfl (.tmp 13) (.tmp 17) 42 rfl w.heap.size 24 i0 (.agg zero32) 32 32 Tryd.underlying42 HI.out.1 HI.out.2.1 HI.out.2.2.1 HI.out.2.2.2 rfl (by decide) u3 _ _ rfl (R.own' _) ⟨wr.heap.size, 0, none⟩ 1 1 (cells8 l) rfl (by rw [cells8_length, hl1]) (news_at wr l) (cells8_one l) (by rw [chainN_length]; unfold maxLen; omega) (by rw [chainN_length]; omega) (by have := HS.out; simp; omega) ?_; intro v' w' hown hgr hnil hat))
        have C := R.snoc _ hgr hown
        have hch : chainN xs 0 ++ [l] = chainN xs (0 + 1) := by
          rw [chainN_succ, show chAt xs 0 = xs.getD 0 [] from rfl, List.getD_eq_getElem?_getD, hl]
          rfl
        rw [hch] at C
        go_roundg (xs.length - (0 + 1))
        case measure => omega
        case rel => exact ⟨0 + 1, rfl, by omega, C, rfl⟩
      · have hdg := chainN_dig hdx i hi
        have hrow := DRow_of_own hdg R.own
        obtain ⟨q, cu, rfl⟩ : ∃ q cu, u3 = .slice (some ⟨q, 0, none⟩) (chainN xs i).length cu := by
          rcases R.own.2 with ⟨_, h0⟩ | ⟨q, cap, cur, h1, _⟩
          · omega
          · exact ⟨q, cap, h1⟩
        obtain ⟨q', hq', hq, hp1, hp2⟩ := hrow.at' (i - 1) (chAt xs (i - 1)) (chainN_get xs i (i - 1) (by omega))
        obtain rfl := Option.some.inj hq'
        obtain ⟨f, hf⟩ : ∃ f, f = nextD (chAt xs (i - 1)) l := ⟨_, rfl⟩
        have hf1 : f.length = 32 := by rw [hf]; exact nextD_length _ _
        have hfz : (cells8 f).length = 32 := by rw [cells8_length, hf1]
        have hch : chainN xs i ++ [f] = chainN xs (i + 1) := by
          rw [chainN_succ, hf]
          obtain ⟨k, rfl⟩ : ∃ k, i = k + 1 := ⟨i - 1, by omega⟩
          rw [show chAt xs (k + 1) = nextD (chAt xs k) (xs.getD (k + 1) []) from rfl, List.getD_eq_getElem?_getD, hl]
          rfl
        have HC := Lib.hid hch
        have HF := Lib.hid hf
        clear hch hf hrow hdg
        rw [hcl] at R
        generalize chAt xs (i - 1) = g at *
        have d1 : IntKind.i64.wrap ((i : Int) - 1) = (i : Int) - 1 := by rw [IntKind.wrap_i64]; omega
        have d2 : ((i : Int) - 1).toNat = i - 1 := by omega
        have d3 : (1 : Int) ≤ (i : Int) := by omega
        have d4 : (i : Int) - 1 < (i : Int) := by omega
        have d5 : (0 : Int) < (i : Int) := by omega
        have d6 : ¬ (i : Int) = 0 := by omega
        have d7 : ((i : Int) == 0) = false := beq_eq_false_iff_ne.mpr d6
        have hpa : p.add (i * 32) = ⟨p.block, p.off + i * 32, none⟩ := by unfold Addr.add; rw [if_neg (by omega)]
        have hqa : (⟨q, 0, none⟩ : Addr).add ((i - 1) * 32) = ⟨q, (i - 1) * 32, none⟩ := add_zero q _
        have l1 : wr.drew.rangeAt q ((i - 1) * 32) (cells8 g) := fun j v hj => by
          have := hq j v hj
          rw [hqa, Addr.add_mid] at this
          exact this
        have l2 : wr.drew.rangeAt p.block (p.off + i * 32) (cells8 l) := fun j v hj => by
          have := hp j v hj
          rw [hpa, Addr.add_mid] at this
          exact this
        have hu24 := und24
        have hg8 : (cells8 g).length = 32 := by rw [cells8_length, hp1]
        have hl8 : (cells8 l).length = 32 := by rw [cells8_length, hl1]
        have hi1 : (Tryd.prog.info? 24).map (·.size) = some (cells8 g).length := by rw [size24, hg8]
        have hi2 : (Tryd.prog.info? 24).map (·.size) = some (cells8 l).length := by rw [size24, hl8]
        have HN : ∀ w, Calls Tryd.prog 25 #[.agg (cells8 g).toArray, .agg (cells8 l).toArray] w fun e w' => e = .returned (digV (nextD g l)) ∧ Below w.heap.size w w' := fun w => by
          rw [← digV_agg, ← digV_agg]
          exact refNext_calls w g l hp1 hl1 hp2 hl2
        have HNN := Lib.hid HN
        clear HN
        have hB0 := (Below.refl wr.heap.size wr).drew
        go_wp2
        refine wp_region_noPanic ?_
        refine wp_region_held_drew (S := fun _ => True) (by kernel_rfl) trivial (fun _ => ?_)
        refine wpAnyH_take (i := 0) (v := (.slice (some ⟨q, 0, none⟩) i cu)) rfl (by kernel_rfl) (by kernel_rfl) (by kernel_rfl) (fun _ _ _ h => h) (Or.inl ⟨by rfl, fun w _ => by go_simp⟩) trivial ?_
        simp only [List.getElem_toArray, List.getElem_cons_zero, Act.put, List.setIfInBounds_toArray, List.set_cons_zero, List.set_cons_succ]
        refine wpAnyH_take (i := 1) (v := (.slice (some ⟨q, 0, none⟩) i cu)) rfl (by kernel_rfl) (by kernel_rfl) (by kernel_rfl) (fun _ _ _ h => h) (Or.inl ⟨by rfl, fun w _ => by go_simp⟩) trivial ?_
        simp only [List.getElem_toArray, List.getElem_cons_succ, List.getElem_cons_zero, Act.put, List.setIfInBounds_toArray, List.set_cons_zero, List.set_cons_succ]
        refine wpAnyH_take (i := 2) (v := (.int .i64 i)) rfl (by kernel_rfl) (by kernel_rfl) (by kernel_rfl) (fun _ _ _ h => h) (Or.inl ⟨by rfl, fun w _ => by go_simp⟩) trivial ?_
        simp only [List.getElem_toArray, List.getElem_cons_succ, List.getElem_cons_zero, Act.put, List.setIfInBounds_toArray, List.set_cons_zero, List.set_cons_succ]
        refine wpAnyH_take (i := 3) (v := (.int .i64 ((i : Int) - 1))) rfl (by kernel_rfl) (by kernel_rfl) (by kernel_rfl) (fun _ _ _ h => h) (Or.inl ⟨by rfl, fun w _ => by go_simp⟩) trivial ?_
        simp only [List.getElem_toArray, List.getElem_cons_succ, List.getElem_cons_zero, Act.put, List.setIfInBounds_toArray, List.set_cons_zero, List.set_cons_succ]
        refine wpAnyH_take (i := 4) (v := (.pointer (some ⟨q, (i - 1) * 32, none⟩))) rfl (by kernel_rfl) (by kernel_rfl) (by kernel_rfl) (fun _ _ _ h => h) (Or.inl ⟨by rfl, fun w _ => by go_simp⟩) trivial ?_
        simp only [List.getElem_toArray, List.getElem_cons_succ, List.getElem_cons_zero, Act.put, List.setIfInBounds_toArray, List.set_cons_zero, List.set_cons_succ]
        refine wpAnyH_take (i := 6) (v := (.slice (some p) xs.length ca)) rfl (by kernel_rfl) (by kernel_rfl) (by kernel_rfl) (fun _ _ _ h => h) (Or.inl ⟨by rfl, fun w _ => by go_simp⟩) trivial ?_
        simp only [List.getElem_toArray, List.getElem_cons_succ, List.getElem_cons_zero, Act.put, List.setIfInBounds_toArray, List.set_cons_zero, List.set_cons_succ]
        refine wpAnyH_take (i := 7) (v := (.int .i64 i)) rfl (by kernel_rfl) (by kernel_rfl) (by kernel_rfl) (fun _ _ _ h => h) (Or.inl ⟨by rfl, fun w _ => by go_simp⟩) trivial ?_
        simp only [List.getElem_toArray, List.getElem_cons_succ, List.getElem_cons_zero, Act.put, List.setIfInBounds_toArray, List.set_cons_zero, List.set_cons_succ]
        refine wpAnyH_take (i := 8) (v := (.pointer (some ⟨p.block, p.off + i * 32, none⟩))) rfl (by kernel_rfl) (by kernel_rfl) (by kernel_rfl) (fun _ _ _ h => h) (Or.inl ⟨by rfl, fun w _ => by go_simp⟩) trivial ?_
        simp only [List.getElem_toArray, List.getElem_cons_succ, List.getElem_cons_zero, Act.put, List.setIfInBounds_toArray, List.set_cons_zero, List.set_cons_succ]
        refine wpAnyH_ready (rs := [5, 9]) (by kernel_rfl) (by simp) (AllReadyH.cons rfl (fun K hK => ?_) (AllReadyH.cons rfl (fun K hK => ?_) AllReadyH.nil))
        case' refine_1 => simp only [List.getElem_toArray, List.getElem_cons_succ, List.getElem_cons_zero]; rw [if_pos (by rfl)]; refine wp_load_mid _ _ rfl _ _ rfl _ _ l1 hu24 rfl hi1 ?_; refine hK.out _ _ trivial (fun _ => ?_); clear hK K; simp only [Act.put, List.setIfInBounds_toArray, List.set_cons_zero, List.set_cons_succ]; refine wpAnyH_ready (rs := [9]) (by kernel_rfl) (by simp) (AllReadyH.cons rfl (fun K hK => ?_) AllReadyH.nil); simp only [List.getElem_toArray, List.getElem_cons_succ, List.getElem_cons_zero]; rw [if_pos (by rfl)]; refine wp_load_mid _ _ rfl _ _ rfl _ _ l2 hu24 rfl hi2 ?_; refine hK.out _ _ trivial (fun _ => ?_); clear hK K; simp only [Act.put, List.setIfInBounds_toArray, List.set_cons_zero, List.set_cons_succ]
        case' refine_2 => simp only [List.getElem_toArray, List.getElem_cons_succ, List.getElem_cons_zero]; rw [if_pos (by rfl)]; refine wp_load_mid _ _ rfl _ _ rfl _ _ l2 hu24 rfl hi2 ?_; refine hK.out _ _ trivial (fun _ => ?_); clear hK K; simp only [Act.put, List.setIfInBounds_toArray, List.set_cons_zero, List.set_cons_succ]; refine wpAnyH_ready (rs := [5]) (by kernel_rfl) (by simp) (AllReadyH.cons rfl (fun K hK => ?_) AllReadyH.nil); simp only [List.getElem_toArray, List.getElem_cons_succ, List.getElem_cons_zero]; rw [if_pos (by rfl)]; refine wp_load_mid _ _ rfl _ _ rfl _ _ l1 hu24 rfl hi1 ?_; refine hK.out _ _ trivial (fun _ => ?_); clear hK K; simp only [Act.put, List.setIfInBounds_toArray, List.set_cons_zero, List.set_cons_succ]
        all_goals
          refine wpAnyH_ready (rs := [10]) (by kernel_rfl) (by simp) (AllReadyH.cons rfl (fun K hK => ?_) AllReadyH.nil)
          simp only [List.getElem_toArray, List.getElem_cons_succ, List.getElem_cons_zero]
          go_simp
          go_at_call 25
          refine (HNN.out _).mono ?_
          rintro e w4 ⟨rfl, hB4⟩
          have R4 := R.keepB (hB0.trans hB4)
          have HS4 := Lib.hid R4.below.size
          rw [← HF.out, digV_agg f]
          dsimp only
          refine hK.out _ _ trivial (fun _ => ?_)
          clear hK K
          try simp only [Act.put, List.setIfInBounds_toArray, List.set_cons_zero, List.set_cons_succ]
          refine wpAnyH_ready (rs := [11]) (by kernel_rfl) (by simp) (AllReadyH.cons rfl (fun K hK => ?_) AllReadyH.nil)
          simp only [List.getElem_toArray, List.getElem_cons_succ, List.getElem_cons_zero]
          go_simp
          simp only [fold_whole f hf1]
          refine hK.out _ _ trivial (fun _ => ?_)
          clear hK K
          try simp only [Act.put, List.setIfInBounds_toArray, List.set_cons_zero, List.set_cons_succ]
          refine wpAnyH_ready (rs := [12]) (by kernel_rfl) (by simp) (AllReadyH.cons rfl (fun K hK => ?_) AllReadyH.nil)
          simp only [List.getElem_toArray, List.getElem_cons_succ, List.getElem_cons_zero]
          rw [if_pos (by rfl)]
          refine step_append_own (.tmp 19) (.tmp 30) 42 (by rfl) w.heap.size 24 i0 (.agg zero32) 32 32 Tryd.underlying42 HI.out.1 HI.out.2.1 HI.out.2.2.1 HI.out.2.2.2 (by rfl) (by decide) (.slice (some ⟨q, 0, none⟩) i cu) _ _ (by rfl) (R4.own' _) ⟨w4.heap.size, 0, none⟩ 1 1 (cells8 f) (by rfl) (by rw [cells8_length, hf1]) (news_at w4 f) (cells8_one f) (by rw [chainN_length]; unfold maxLen; omega) (by rw [chainN_length]; omega) (by have := HS4.out; simp; omega) ?_
          intro v' w' hown hgr
          refine hK.out _ _ trivial (fun _ => ?_)
          clear hK K
          try simp only [Act.put, List.setIfInBounds_toArray, List.set_cons_zero, List.set_cons_succ]
          refine wpAnyH_ready (rs := [13]) (by kernel_rfl) (by simp) (AllReadyH.cons rfl (fun K hK => ?_) AllReadyH.nil)
          simp only [List.getElem_toArray, List.getElem_cons_succ, List.getElem_cons_zero]
          go_simp
          refine hK.out _ _ trivial (fun _ => ?_)
          clear hK K
          try simp only [Act.put, List.setIfInBounds_toArray, List.set_cons_zero, List.set_cons_succ]
          refine wpAnyH_done (by kernel_rfl) ?_ _
          refine NoPanic.normal ?_
          go_wp2
          have C := R4.snoc _ hgr hown
          rw [HC.out] at C
          go_roundg (xs.length - (i + 1))
          case measure => clear d1 d2 d3 d4 d5 d6 c1 c3 c4; omega
          case rel => exact ⟨i + 1, by simp, by clear d1 d2 d3 d4 d5 d6 c1 c3 c4; omega, C, rfl⟩
    · have hix : i = xs.length := by omega
      subst hix
      go_wp2
      go_ret
      exact ⟨_, rfl, R⟩
end Go.Proofs.YtegjphfkkafomaaDoor.Sha
/- Lists of digests put together; what two lists have in common. -/
namespace Go.Proofs.YtegjphfkkafomaaDoor.Sha
open Go.RowKit Go.Proofs Go.Proofs.YtegjphfkkafomaaDoor.Q Go.Proofs.YtegjphfkkafomaaDoorW.PrintWords Go.Proofs.YtegjphfkkafomaaDoorW.PrintLast Go.Proofs.YtegjphfkkafomaaDoorW.PrintMore

theorem Digs.append {a b : List (List Nat)} (ha : Digs a) (hb : Digs b) : Digs (a ++ b) := fun l hl => (List.mem_append.1 hl).elim (ha l) (hb l)
theorem cellsD_back : ∀ (L : List (List Nat)) (k : Nat) (u : Value), Digs L → (cellsD L)[k]? = some u → ∃ i l j, L[i]? = some l ∧ (cells8 l)[j]? = some u ∧ k = i * 32 + j
  | [], _, _, _, h => by simp [cellsD] at h
  | m :: r, k, u, hd, h => by
    have h32 := (hd m List.mem_cons_self).1
    by_cases hk : k < 32
    · refine ⟨0, m, k, rfl, ?_, by omega⟩
      rwa [show cellsD (m :: r) = cells8 m ++ cellsD r from rfl, List.getElem?_append_left (by rw [cells8_length, h32]; exact hk)] at h
    · rw [show cellsD (m :: r) = cells8 m ++ cellsD r from rfl, List.getElem?_append_right (by rw [cells8_length, h32]; omega), cells8_length, h32] at h
      obtain ⟨i, l, j, h1, h2, h3⟩ := cellsD_back r (k - 32) u (fun x hx => hd x (List.mem_cons_of_mem _ hx)) h
      exact ⟨i + 1, l, j, by simpa using h1, h2, by omega⟩
theorem Addr.add_twice (a : Addr) (i j : Nat) : (a.add i).add j = a.add (i + j) := by
  obtain ⟨b, o, s⟩ := a
  unfold Addr.add
  by_cases hi : i = 0
  · subst hi
    simp
  · by_cases hj : j = 0
    · subst hj
      simp [hi]
    · rw [if_neg hi, if_neg hj, if_neg (by omega), Nat.add_assoc]
theorem chAt_congr {xs ys : List (List Nat)} : ∀ (i : Nat), (∀ j, j ≤ i → xs[j]? = ys[j]?) → chAt xs i = chAt ys i
  | 0, h => by
    show xs.getD 0 [] = ys.getD 0 []
    rw [List.getD_eq_getElem?_getD, List.getD_eq_getElem?_getD, h 0 (Nat.le_refl _)]
  | i + 1, h => by
    show nextD (chAt xs i) (xs.getD (i + 1) []) = nextD (chAt ys i) (ys.getD (i + 1) [])
    rw [chAt_congr i (fun j hj => h j (by omega)), List.getD_eq_getElem?_getD, List.getD_eq_getElem?_getD, h (i + 1) (Nat.le_refl _)]
theorem shared_get : ∀ (xs ys : List (List Nat)) (i : Nat), i < sharedN xs ys → xs[i]? = ys[i]?
  | [], _, _, h => by simp [sharedN] at h
  | _ :: _, [], _, h => by simp [sharedN] at h
  | x :: xs, y :: ys, i, h => by
    unfold sharedN at h
    by_cases e : x = y
    · rw [if_pos e] at h
      cases i with
      | zero => simp [e]
      | succ i => simpa using shared_get xs ys i (by omega)
    · rw [if_neg e] at h
      omega
theorem shared_front : ∀ (F a b : List (List Nat)), F.length ≤ sharedN (F ++ a) (F ++ b)
  | [], _, _ => Nat.zero_le _
  | x :: F, a, b => by
    have := shared_front F a b
    show F.length + 1 ≤ (if x = x then sharedN (F ++ a) (F ++ b) + 1 else 0)
    rw [if_pos rfl]
    omega
theorem shared_end : ∀ (xs ys : List (List Nat)) (l m : List Nat), xs[sharedN xs ys]? = some l → ys[sharedN xs ys]? = some m → l ≠ m
  | [], _, _, _, h, _ => by simp at h
  | _ :: _, [], _, _, _, h => by simp at h
  | x :: xs, y :: ys, l, m, h1, h2 => by
    unfold sharedN at h1 h2
    by_cases e : x = y
    · rw [if_pos e] at h1 h2
      exact shared_end xs ys l m (by simpa using h1) (by simpa using h2)
    · rw [if_neg e] at h1 h2
      simp at h1 h2
      rw [← h1, ← h2]
      exact e
theorem chAt_shared {xs ys : List (List Nat)} {i : Nat} (h : i < sharedN xs ys) : chAt xs i = chAt ys i := chAt_congr i (fun j hj => shared_get xs ys j (by omega))
theorem chAt_front {F a : List (List Nat)} {i : Nat} (h : i < F.length) : chAt F i = chAt (F ++ a) i := chAt_congr i (fun j hj => (List.getElem?_append_left (by omega)).symm)

/-- Nothing put behind a slice. -/
theorem run_append_nil (w : World) (ty : TypeId) (b : Option Addr) (l c : Nat) (h : l ≤ c) : (Builtin.append_ #[42, 42] ty #[.slice b l c, .slice none 0 0]).run Tryd.prog w = .ok (.slice b l c) w := by
  obtain ⟨i0, hi, hz0, hz1, hz2⟩ : ∃ i0, Tryd.prog.info? 24 = some i0 ∧ i0.zero = some (.agg zero32) ∧ i0.size = 32 ∧ i0.bytes = 32 := info_parts info24
  unfold Builtin.append_
  cases b <;> simp [Sem.run_bind, run_underlying Tryd.underlying42, sizeOf, typeInfo, hi, Builtin.lenOf, Builtin.firstCells, storeCells, h]
theorem CIn.cap {w wr : World} {b : Option Addr} {l c : Nat} {L : List (List Nat)} (h : CIn w (.slice b l c) L wr) : l ≤ c := by
  rcases h.own.2 with ⟨h1, _⟩ | ⟨g, cap, cur, h1, _, _, h2, _⟩
  · cases h1
    exact Nat.le_refl _
  · cases h1
    exact h2
/-- A slice of digests put behind an own one. -/
theorem run_append_D {w wr : World} {v u : Value} {L M : List (List Nat)} (h : CIn w v L wr) (hu : DRow wr u M) (hl : L.length + M.length ≤ 1000) (ty : TypeId) :
    ∃ v' w', (Builtin.append_ #[42, 42] ty #[v, u]).run Tryd.prog wr = .ok v' w' ∧ CIn w v' (L ++ M) w' := by
  rcases hu.2 with ⟨rfl, rfl⟩ | ⟨ad, cap, rfl, hat⟩
  · obtain ⟨b, c, rfl⟩ : ∃ b c, v = .slice b L.length c := by
      rcases h.own.2 with ⟨h1, h2⟩ | ⟨g, cap, cur, h1, _⟩
      · exact ⟨none, 0, by rw [h1, h2]⟩
      · exact ⟨_, cap, h1⟩
    refine ⟨_, _, run_append_nil wr ty b L.length c h.cap, ?_⟩
    rw [List.append_nil]
    exact h
  · obtain ⟨i0, hi, hz0, hz1, hz2⟩ : ∃ i0, Tryd.prog.info? 24 = some i0 ∧ i0.zero = some (.agg zero32) ∧ i0.size = 32 ∧ i0.bytes = 32 := info_parts info24
    obtain ⟨v', w', hr, h2, h3, _, _⟩ := run_append_own_at (P := Tryd.prog) wr w.heap.size 42 ty 24 i0 (.agg zero32) 32 32 Tryd.underlying42 hi hz0 hz1 hz2 rfl (by decide) v L.length _ h.own ad M.length cap (cellsD M)
      (cellsD_length M hu.1) (fun j u hj => by
        obtain ⟨i, l, k, e1, e2, rfl⟩ := cellsD_back M j u hu.1 hj
        rw [← Addr.add_twice]
        exact hat i l e1 k u e2) (cellsD_oneC M) (by unfold maxLen; omega) (by omega) h.below.size
    refine ⟨v', w', hr, h.below.grown h3 h.below.size (fun k hk => (h.own.lt k hk).1), ?_⟩
    rw [List.length_append, cellsD_append]
    exact h2
theorem wpList_append_D {ops : Array Oper} {rest : List Oper} {o : Oper} {a : Act} {Q : Exit → Act → World → Prop} (hgd : o.guard = none) (s x : Operand)
    (ho : o.op = .call { callee := .builtin .append, args := #[s, x], argTypes := #[42, 42] }) {w wr : World} (v u : Value) (L M : List (List Nat)) (hs : a.eval s = v) (hx : a.eval x = u) (h : CIn w v L wr) (hu : DRow wr u M) (hl : L.length + M.length ≤ 1000)
    (hn : ∀ v' w', CIn w v' (L ++ M) w' → wpList Tryd.prog ops Q rest (a.put o.dst v') w') : wpList Tryd.prog ops Q (o :: rest) a wr := by
  refine wpList_plain hgd fun K hK => ?_
  obtain ⟨v', w', hr, h2⟩ := run_append_D h hu hl o.type
  unfold Oper.wp execOp
  simp only [ho, resolve, invoke, builtin, Sem.run_bind, Sem.run_pure, Result.andThen_ok, List.map_toArray, List.map_cons, List.map_nil, hs, hx, hr]
  exact hK _ _ (hn v' w' h2)
end Go.Proofs.YtegjphfkkafomaaDoor.Sha
