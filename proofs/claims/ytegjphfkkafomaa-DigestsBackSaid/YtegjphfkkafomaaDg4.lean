/- Parse, by the program: the walk. -/
import Derived.Test.YtegjphfkkafomaaDg3
namespace Go.Proofs.Ytegjphfkkafomaa.Dg
open Go.RowKit Go.Proofs Go.Proofs.YtegjphfkkafomaaW.PrintWords Go.Proofs.YtegjphfkkafomaaW.PrintLast Go.Proofs.YtegjphfkkafomaaW.PrintMore

theorem zeroD_val : Value.agg #[.int .u8 0, .int .u8 0, .int .u8 0, .int .u8 0, .int .u8 0, .int .u8 0, .int .u8 0, .int .u8 0, .int .u8 0, .int .u8 0, .int .u8 0, .int .u8 0, .int .u8 0, .int .u8 0, .int .u8 0, .int .u8 0, .int .u8 0, .int .u8 0, .int .u8 0, .int .u8 0, .int .u8 0, .int .u8 0, .int .u8 0, .int .u8 0, .int .u8 0, .int .u8 0, .int .u8 0, .int .u8 0, .int .u8 0, .int .u8 0, .int .u8 0, .int .u8 0] = digV zeroD := by kernel_rfl
theorem neq_zero (w : World) : (Go.binOp .neq 24 (digV zeroD) (Value.agg #[.int .u8 0, .int .u8 0, .int .u8 0, .int .u8 0, .int .u8 0, .int .u8 0, .int .u8 0, .int .u8 0, .int .u8 0, .int .u8 0, .int .u8 0, .int .u8 0, .int .u8 0, .int .u8 0, .int .u8 0, .int .u8 0, .int .u8 0, .int .u8 0, .int .u8 0, .int .u8 0, .int .u8 0, .int .u8 0, .int .u8 0, .int .u8 0, .int .u8 0, .int .u8 0, .int .u8 0, .int .u8 0, .int .u8 0, .int .u8 0, .int .u8 0, .int .u8 0])).run Try.prog w = .ok (.bool false) w := by
  rw [zeroD_val]
  exact neq_same zeroD rfl (by decide) w
theorem guard_zero (op : BinOp) (x y : Operand) (l : List Nat) (w : World) : (eqGuard op 24 x y (digV l) (Value.agg #[.int .u8 0, .int .u8 0, .int .u8 0, .int .u8 0, .int .u8 0, .int .u8 0, .int .u8 0, .int .u8 0, .int .u8 0, .int .u8 0, .int .u8 0, .int .u8 0, .int .u8 0, .int .u8 0, .int .u8 0, .int .u8 0, .int .u8 0, .int .u8 0, .int .u8 0, .int .u8 0, .int .u8 0, .int .u8 0, .int .u8 0, .int .u8 0, .int .u8 0, .int .u8 0, .int .u8 0, .int .u8 0, .int .u8 0, .int .u8 0, .int .u8 0, .int .u8 0])).run Try.prog w = .ok () w := by
  rw [zeroD_val]
  exact guard_dig op x y l zeroD w
theorem zero_lit : Value.agg #[.int .u8 0, .int .u8 0, .int .u8 0, .int .u8 0, .int .u8 0, .int .u8 0, .int .u8 0, .int .u8 0, .int .u8 0, .int .u8 0, .int .u8 0, .int .u8 0, .int .u8 0, .int .u8 0, .int .u8 0, .int .u8 0, .int .u8 0, .int .u8 0, .int .u8 0, .int .u8 0, .int .u8 0, .int .u8 0, .int .u8 0, .int .u8 0, .int .u8 0, .int .u8 0, .int .u8 0, .int .u8 0, .int .u8 0, .int .u8 0, .int .u8 0, .int .u8 0] = .agg (cells8 zeroD).toArray := by kernel_rfl

/-- What Parse answers. -/
def PRes (s : ByteArray) (l : List Nat) (c : Int) : Prop := (c = 0 ∧ IsText s l) ∨ (c = 10 ∧ l = zeroD ∧ ∀ m, ¬ IsText s m)
def PEnd (s : ByteArray) (w : World) (e : Ending) (w' : World) : Prop := ∃ l c, e = .returned (.tuple #[digV l, .int .i64 c]) ∧ PRes s l c ∧ Below w.heap.size w w'
theorem two_new (w : World) (a b : Obj) : ((w.alloc a).alloc b).heap[w.heap.size]? = some a := by
  rw [Below.heap_alloc _ _ _ (by simp)]
  exact alloc_new w _ _ rfl
attribute [local irreducible] digV Go.wpQuiet
set_option maxHeartbeats 1000000 in
set_option maxRecDepth 100000 in
theorem parse_head (s : ByteArray) (w : World) (h : ∀ r, s ≠ preS ++ r) : Calls Try.prog 7 #[.string s] w (PEnd s w) := by
  have HC := Lib.hid (fun w => cut_no s preS w h)
  have HN := Lib.hid (not_text_of_head h)
  have hd := two_new w (.cells zero32 24 (0, 0)) (.cells zero32 24 (0, 0))
  have HB := Lib.hid (show Below w.heap.size w ((w.alloc (.cells zero32 24 (0, 0))).alloc (.cells zero32 24 (0, 0))) from ((Below.refl _ _).alloc (Nat.le_refl _) _).alloc (by simp) _)
  clear h
  go_enter Try.func7, Try.ntmps7
  go_wp2_with (first
    | (go_at_call 15; refine (HC.out _).mono ?_; rintro e w2 ⟨rfl, rfl⟩)
    | (refine wpList_store_mid rfl 24 (.tmp 2) (.tmp 22) rfl w.heap.size 0 (cells8 zeroD).toArray rfl zero_lit (there_32 hd rfl zeroD rfl) size24 (all_oneCell_toArray (cells8_one _)) ?_))
  refine bodyPost_ret (v := .tuple #[.agg (cells8 zeroD).toArray, .int .i64 10]) ?_ rfl ⟨zeroD, 10, by rw [digV_agg], .inr ⟨rfl, rfl, HN.out⟩, setCells_below _ _ _ _ _ (Nat.le_refl _) HB.out⟩
  exact results_cell_tmp Try.results7 _ _ w.heap.size 24 (cells8 zeroD).toArray (0, 0) (.array 32 5) (.int .i64 10) rfl rfl (setCells_whole _ _ _ hd rfl) und24 rfl size24
set_option maxHeartbeats 1000000 in
set_option maxRecDepth 100000 in
theorem parse_size (r : ByteArray) (w : World) (h : r.size ≠ 64) : Calls Try.prog 7 #[.string (preS ++ r)] w (PEnd (preS ++ r) w) := by
  have HC := Lib.hid (fun w => cut_yes preS r w)
  have HN := Lib.hid (not_text_of_size (s := preS ++ r) (by rw [ByteArray.size_append]; show 7 + r.size ≠ 71; omega))
  have hd := two_new w (.cells zero32 24 (0, 0)) (.cells zero32 24 (0, 0))
  have HB := Lib.hid (show Below w.heap.size w ((w.alloc (.cells zero32 24 (0, 0))).alloc (.cells zero32 24 (0, 0))) from ((Below.refl _ _).alloc (Nat.le_refl _) _).alloc (by simp) _)
  have h1 : ¬ (r.size : Int) = 64 := by omega
  have h2 : ((r.size : Int) == 64) = false := beq_eq_false_iff_ne.mpr h1
  have h3 : ((r.size : Int) != 64) = true := bne_iff_ne.mpr h1
  clear h
  generalize preS ++ r = s at HC HN ⊢
  go_enter Try.func7, Try.ntmps7
  go_wp2_with (first
    | (go_at_call 15; refine (HC.out _).mono ?_; rintro e w2 ⟨rfl, rfl⟩)
    | (refine wpList_store_mid rfl 24 (.tmp 2) (.tmp 22) rfl w.heap.size 0 (cells8 zeroD).toArray rfl zero_lit (there_32 hd rfl zeroD rfl) size24 (all_oneCell_toArray (cells8_one _)) ?_))
  refine bodyPost_ret (v := .tuple #[.agg (cells8 zeroD).toArray, .int .i64 10]) ?_ rfl ⟨zeroD, 10, by rw [digV_agg], .inr ⟨rfl, rfl, HN.out⟩, setCells_below _ _ _ _ _ (Nat.le_refl _) HB.out⟩
  exact results_cell_tmp Try.results7 _ _ w.heap.size 24 (cells8 zeroD).toArray (0, 0) (.array 32 5) (.int .i64 10) rfl rfl (setCells_whole _ _ _ hd rfl) und24 rfl size24
end Go.Proofs.Ytegjphfkkafomaa.Dg
