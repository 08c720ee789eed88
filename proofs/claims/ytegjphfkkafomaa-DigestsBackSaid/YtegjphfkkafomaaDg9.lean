/- The chapter's examples: the walk. -/
import Derived.Test.YtegjphfkkafomaaDg8
namespace Go.Proofs.Ytegjphfkkafomaa.Dg
open Go.RowKit Go.Proofs Go.Proofs.YtegjphfkkafomaaW.PrintWords Go.Proofs.YtegjphfkkafomaaW.PrintLast Go.Proofs.YtegjphfkkafomaaW.PrintMore

theorem PEnd.none {s : ByteArray} {w w' : World} {e : Ending} (h : PEnd s w e w') (hn : ∀ m, ¬ IsText s m) : e = .returned (.tuple #[digV zeroD, .int .i64 10]) ∧ Below w.heap.size w w' := by
  obtain ⟨l, c, rfl, h1, hB⟩ := h
  rcases h1 with ⟨_, h2⟩ | ⟨rfl, rfl, _⟩
  · exact absurd h2 (hn l)
  · exact ⟨rfl, hB⟩
theorem PEnd.some {s : ByteArray} {w w' : World} {e : Ending} (h : PEnd s w e w') {l : List Nat} (hn : IsText s l) : e = .returned (.tuple #[digV l, .int .i64 0]) ∧ Below w.heap.size w w' := by
  obtain ⟨m, c, rfl, h1, hB⟩ := h
  rcases h1 with ⟨rfl, h2⟩ | ⟨_, _, h2⟩
  · rw [h2.one hn]
    exact ⟨rfl, hB⟩
  · exact absurd hn (h2 l)
def abD : List Nat := 171 :: List.replicate 31 0
theorem abD_lt : ∀ x ∈ abD, x < 256 := by decide
theorem ab_lit : Value.agg #[.int .u8 171, .int .u8 0, .int .u8 0, .int .u8 0, .int .u8 0, .int .u8 0, .int .u8 0, .int .u8 0, .int .u8 0, .int .u8 0, .int .u8 0, .int .u8 0, .int .u8 0, .int .u8 0, .int .u8 0, .int .u8 0, .int .u8 0, .int .u8 0, .int .u8 0, .int .u8 0, .int .u8 0, .int .u8 0, .int .u8 0, .int .u8 0, .int .u8 0, .int .u8 0, .int .u8 0, .int .u8 0, .int .u8 0, .int .u8 0, .int .u8 0, .int .u8 0] = .agg (cells8 abD).toArray := by kernel_rfl
/-- The example's text, from its tenth byte on. -/
def abRest : ByteArray := (textS abD).extract 9 71
theorem ab_not : ∀ m, ¬ IsText (({ data := #[115, 104, 97, 50, 53, 54, 58, 65, 66] } : ByteArray) ++ abRest) m := by
  have e : ({ data := #[115, 104, 97, 50, 53, 54, 58, 65, 66] } : ByteArray) ++ abRest = preS ++ (({ data := #[65, 66] } : ByteArray) ++ abRest) := by kernel_rfl
  rw [e]
  exact not_text_of_digit _ 0 (by omega) (by
    have h : hv ((({ data := #[65, 66] } : ByteArray) ++ abRest).data.toList.getD 0 0) = -1 := by kernel_rfl
    rw [h]
    decide)
theorem md5_not : ∀ m, ¬ IsText ({ data := #[109, 100, 53, 58, 97, 98] } : ByteArray) m := not_text_of_size (by decide)
/-- A whole array loaded, behind a guard that lets it be. -/
theorem wpList_load_rowW {P : Program} {ops : Array Oper} {rest : List Oper} {o : Oper} {a : Act} {w : World} {Q : Exit → Act → World → Prop} (hgd : Region.wanted o (yielded ops a.tmps) = true) (ty : TypeId) (x : Operand) (ho : o.op = .load ty x)
    (g : Nat) (hx : a.eval x = .pointer (some ⟨g, 0, none⟩)) (t : TypeId) (cs : Array Value) (fr : Nat × Nat) (d : TypeDesc) (hg : w.heap[g]? = some (.cells cs t fr))
    (hu : P.underlying ty = some d) (hd : (match d with | .struct _ | .array _ _ => true | _ => false) = true) (hi : (P.info? ty).map (·.size) = some cs.size)
    (h : wpList P ops Q rest (a.put o.dst (.agg cs)) w) : wpList P ops Q (o :: rest) a w :=
  wpList_step fun _ hK => by
    rw [if_pos hgd]
    exact wp_load_row ty x ho g hx t cs fr d hg hu hd hi (hK _ _ h)
attribute [local irreducible] digV Go.wpQuiet
set_option maxHeartbeats 2000000 in
set_option maxRecDepth 100000 in
theorem named_calls (w : World) : Calls Try.prog 6 #[] w fun e w' => e = .returned (.bool true) ∧ Below w.heap.size w w' := by
  have f1 : ∀ w, (Instr.slice 9 (.string (textS abD)) (some (.int .i64 9)) none none).run Try.prog w = .ok (.string abRest) w := fun _ => by kernel_rfl
  have f2 : ∀ w, (Instr.slice 9 (.string (textS abD)) none (some (.int .i64 11)) none).run Try.prog w = .ok (.string { data := #[115, 104, 97, 50, 53, 54, 58, 97, 98, 48, 48] }) w := fun _ => by kernel_rfl
  obtain ⟨U, hU⟩ : ∃ U, U = ({ data := #[115, 104, 97, 50, 53, 54, 58, 65, 66] } : ByteArray) ++ abRest := ⟨_, rfl⟩
  have f3 : ∀ w, (Op.stringOp .add { data := #[115, 104, 97, 50, 53, 54, 58, 65, 66] } abRest).run Try.prog w = .ok (.string U) w := fun _ => by rw [hU]; kernel_rfl
  have hz : (textS abD).size = 71 := by kernel_rfl
  have HU := Lib.hid (show ∀ m, ¬ IsText U m from by rw [hU]; exact ab_not)
  have HT := Lib.hid (show ∀ w, Calls Try.prog 8 #[.agg (cells8 abD).toArray] w fun e w' => e = .returned (.string (textS abD)) ∧ Below w.heap.size w w' from fun w => by rw [← digV_agg]; exact text_calls w abD rfl abD_lt)
  have HS := Lib.hid (show ∀ w, Calls Try.prog 11 #[.agg (cells8 abD).toArray] w fun e w' => e = .returned (.string { data := #[97, 98, 48, 48, 48, 48, 48, 48, 48, 48, 48, 48] }) ∧ Below w.heap.size w w' from fun w => by
    have e : shortS abD = { data := #[97, 98, 48, 48, 48, 48, 48, 48, 48, 48, 48, 48] } := by kernel_rfl
    rw [← digV_agg, ← e]
    exact short_calls w abD rfl abD_lt)
  clear hU
  generalize textS abD = T at *
  generalize abRest = R at *
  go_enter Try.func6, Try.ntmps6
  go_wp2_with (first
    | (refine wpList_store_mid rfl 24 (.tmp 1) (.tmp 7) rfl w.heap.size 0 (cells8 abD).toArray rfl ab_lit (there_32 (alloc_new w _ _ rfl) rfl abD rfl) size24 (all_oneCell_toArray (cells8_one _)) ?_; show wpList _ _ _ _ _ ((w.alloc (.cells zero32 24 (0, 0))).setCells w.heap.size 0 (cells8 abD)); have hd1 := setCells_whole (cells8 abD) _ _ (alloc_new w (.cells zero32 24 (0, 0)) _ rfl) rfl; have hB1 : Below w.heap.size w ((w.alloc (.cells zero32 24 (0, 0))).setCells w.heap.size 0 (cells8 abD)) := setCells_below _ _ _ _ _ (Nat.le_refl _) ((Below.refl _ _).alloc (Nat.le_refl _) _); generalize (w.alloc (.cells zero32 24 (0, 0))).setCells w.heap.size 0 (cells8 abD) = w1 at hd1 hB1 ⊢)
    | (refine wpList_load_row rfl 24 (.tmp 1) rfl w.heap.size rfl 24 (cells8 abD).toArray (0, 0) (.array 32 5) hd1 und24 rfl size24 ?_)
    | (go_at_call 8; refine (HT.out _).mono ?_; rintro e w2 ⟨rfl, hB2⟩; have hd2 := (hB2.block _ (lt_of_block hd1)).trans hd1; have hB2' := hB1.trans (hB2.mono hB1.size); clear hd1 hB1 hB2)
    | (go_at_call_of 7 (Value.string U); refine (parse_calls U _).mono ?_; intro e w3 hP; obtain ⟨rfl, hB3⟩ := hP.none HU.out; have hd3 := (hB3.block _ (lt_of_block hd2)).trans hd2; have hB3' := hB2'.trans (hB3.mono hB2'.size); clear hP hd2 hB2' hB3)
    | (apply wpList_store_mid (ty := 24) (x := .tmp 3) (y := .tmp 18) (o := 0) (cells := (cells8 zeroD).toArray); (case ho => exact rfl); (case hgd => exact rfl); (case hx => exact rfl); (case hy => exact digV_agg _); (case ht => exact there_32 (alloc_new _ _ _ rfl) rfl zeroD rfl); (case hi => exact size24); (case h1 => exact all_oneCell_toArray (cells8_one _)); have hBx : Below w3.heap.size w3 ((w3.alloc (.cells zero32 24 (0, 0))).setCells w3.heap.size 0 (cells8 zeroD)) := setCells_below _ _ _ _ _ (Nat.le_refl _) ((Below.refl _ _).alloc (Nat.le_refl _) _); show wpList _ _ _ _ _ ((w3.alloc (.cells zero32 24 (0, 0))).setCells w3.heap.size 0 (cells8 zeroD)); generalize (w3.alloc (.cells zero32 24 (0, 0))).setCells w3.heap.size 0 (cells8 zeroD) = w4 at hBx ⊢; have hd4 := (hBx.block _ (lt_of_block hd3)).trans hd3; have hB4' := hB3'.trans (hBx.mono hB3'.size); clear hd3 hB3' hBx)
    | (go_at_call 7; refine (parse_calls { data := #[109, 100, 53, 58, 97, 98] } _).mono ?_; intro e w5 hP; obtain ⟨rfl, hB5⟩ := hP.none md5_not; have hd5 := (hB5.block _ (lt_of_block hd4)).trans hd4; have hB5' := hB4'.trans (hB5.mono hB4'.size); clear hP hd4 hB4' hB5)
    | (apply wpList_store_mid (ty := 24) (x := .tmp 5) (y := .tmp 22) (o := 0) (cells := (cells8 zeroD).toArray); (case ho => exact rfl); (case hgd => exact rfl); (case hx => exact rfl); (case hy => exact digV_agg _); (case ht => exact there_32 (alloc_new _ _ _ rfl) rfl zeroD rfl); (case hi => exact size24); (case h1 => exact all_oneCell_toArray (cells8_one _)); have hBx : Below w5.heap.size w5 ((w5.alloc (.cells zero32 24 (0, 0))).setCells w5.heap.size 0 (cells8 zeroD)) := setCells_below _ _ _ _ _ (Nat.le_refl _) ((Below.refl _ _).alloc (Nat.le_refl _) _); show wpList _ _ _ _ _ ((w5.alloc (.cells zero32 24 (0, 0))).setCells w5.heap.size 0 (cells8 zeroD)); generalize (w5.alloc (.cells zero32 24 (0, 0))).setCells w5.heap.size 0 (cells8 zeroD) = w6 at hBx ⊢; have hd6 := (hBx.block _ (lt_of_block hd5)).trans hd5; have hB6' := hB5'.trans (hBx.mono hB5'.size); clear hd5 hB5' hBx)
    | (refine wpList_load_rowW (by kernel_rfl) 24 (.tmp 1) rfl w.heap.size rfl 24 (cells8 abD).toArray (0, 0) (.array 32 5) hd6 und24 rfl size24 ?_)
    | (go_at_call 11; refine (HS.out _).mono ?_; rintro e w7 ⟨rfl, hB7⟩; have hB7' := hB6'.trans (hB7.mono hB6'.size)))
  go_ret
  exact ⟨rfl, hB7'⟩
end Go.Proofs.Ytegjphfkkafomaa.Dg
