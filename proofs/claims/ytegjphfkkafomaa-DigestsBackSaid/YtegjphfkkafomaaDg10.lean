/- DigestsForm and DigestsTell: the walks. -/
import Derived.Test.YtegjphfkkafomaaDg9
namespace Go.Proofs.Ytegjphfkkafomaa.Dg
open Go.RowKit Go.Proofs Go.Proofs.YtegjphfkkafomaaW.PrintWords Go.Proofs.YtegjphfkkafomaaW.PrintLast Go.Proofs.YtegjphfkkafomaaW.PrintMore



theorem eql_zero (w : World) : (Go.binOp .eql 24 (digV zeroD) (Value.agg #[.int .u8 0, .int .u8 0, .int .u8 0, .int .u8 0, .int .u8 0, .int .u8 0, .int .u8 0, .int .u8 0, .int .u8 0, .int .u8 0, .int .u8 0, .int .u8 0, .int .u8 0, .int .u8 0, .int .u8 0, .int .u8 0, .int .u8 0, .int .u8 0, .int .u8 0, .int .u8 0, .int .u8 0, .int .u8 0, .int .u8 0, .int .u8 0, .int .u8 0, .int .u8 0, .int .u8 0, .int .u8 0, .int .u8 0, .int .u8 0, .int .u8 0, .int .u8 0])).run Try.prog w = .ok (.bool true) w := by
  rw [zeroD_val]
  exact eql_same zeroD rfl (by decide) w
theorem PRes.one {s : ByteArray} {l m : List Nat} {c d : Int} (h : PRes s l c) (k : PRes s m d) : l = m ∧ c = d := by
  rcases h with ⟨rfl, h⟩ | ⟨rfl, rfl, h⟩
  · rcases k with ⟨rfl, k⟩ | ⟨_, _, k⟩
    · exact ⟨h.one k, rfl⟩
    · exact absurd h (k _)
  · rcases k with ⟨_, k⟩ | ⟨rfl, rfl, _⟩
    · exact absurd k (h _)
    · exact ⟨rfl, rfl⟩
theorem PRes.dig {s : ByteArray} {l : List Nat} {c : Int} (h : PRes s l c) : l.length = 32 ∧ ∀ x ∈ l, x < 256 := by
  rcases h with ⟨_, h⟩ | ⟨_, rfl, _⟩
  · exact ⟨h.1, h.2.1⟩
  · exact ⟨rfl, by decide⟩
theorem new_digest (w : World) (l : List Nat) (hl : l.length = 32) : Below w.heap.size w ((w.alloc (.cells zero32 24 (0, 0))).setCells w.heap.size 0 (cells8 l)) ∧ ((w.alloc (.cells zero32 24 (0, 0))).setCells w.heap.size 0 (cells8 l)).heap[w.heap.size]? = some (.cells (cells8 l).toArray 24 (0, 0)) :=
  ⟨setCells_below _ _ _ _ _ (Nat.le_refl _) ((Below.refl _ _).alloc (Nat.le_refl _) _), setCells_whole _ _ _ (alloc_new _ _ _ rfl) (by rw [cells8_length, hl]; rfl)⟩
attribute [local irreducible] digV Go.wpQuiet
set_option maxHeartbeats 2000000 in
set_option maxRecDepth 100000 in
theorem form_calls (s : ByteArray) (w : World) : Calls Try.prog 3 #[.string s] w fun e w' => e = .returned (.bool true) ∧ Below w.heap.size w w' := by
  have HN := Lib.hid (fun w => named_calls w)
  by_cases h : (200 : Int) < (s.size : Int)
  · go_enter Try.func3, Try.ntmps3
    go_wp2_with (go_at_call 6; refine (HN.out _).mono ?_; rintro e w2 ⟨rfl, hB⟩)
    go_ret
    exact ⟨rfl, hB⟩
  · by_cases ht : ∃ l, IsText s l
    · obtain ⟨l, hl⟩ := ht
      have hl1 := hl.1
      have HT := Lib.hid (show ∀ w, Calls Try.prog 8 #[.agg (cells8 l).toArray] w fun e w' => e = .returned (.string s) ∧ Below w.heap.size w w' from fun w => by
        rw [← digV_agg, hl.2.2]
        exact text_calls w l hl.1 hl.2.1)
      have HL := Lib.hid hl
      clear hl
      go_enter Try.func3, Try.ntmps3
      go_wp2_with (first
        | (go_at_call 7; refine (parse_calls s _).mono ?_; intro e w2 hP; obtain ⟨rfl, hB2⟩ := hP.some HL.out; clear hP)
        | (apply wpList_store_mid (ty := 24) (x := .tmp 3) (y := .tmp 12) (o := 0) (cells := (cells8 l).toArray); (case ho => exact rfl); (case hgd => exact rfl); (case hx => exact rfl); (case hy => exact digV_agg _); (case ht => exact there_32 (alloc_new _ _ _ rfl) rfl l hl1); (case hi => exact digV_size _ hl1); (case h1 => exact all_oneCell_toArray (cells8_one _)); obtain ⟨hB3, hd3⟩ := new_digest w2 l hl1; show wpList _ _ _ _ _ ((w2.alloc (.cells zero32 24 (0, 0))).setCells w2.heap.size 0 (cells8 l)); generalize (w2.alloc (.cells zero32 24 (0, 0))).setCells w2.heap.size 0 (cells8 l) = w3 at hB3 hd3 ⊢)
        | (refine wpList_load_row rfl 24 (.tmp 3) rfl w2.heap.size rfl 24 (cells8 l).toArray (0, 0) (.array 32 5) hd3 und24 rfl (digV_size _ hl1) ?_)
        | (go_at_call 8; refine (HT.out _).mono ?_; rintro e w4 ⟨rfl, hB4⟩)
        | (go_at_call 6; refine (HN.out _).mono ?_; rintro e w5 ⟨rfl, hB5⟩))
      go_ret
      have b3 := hB2.trans (hB3.mono hB2.size)
      have b4 := b3.trans (hB4.mono b3.size)
      exact ⟨rfl, b4.trans (hB5.mono b4.size)⟩
    · have HL := Lib.hid (show ∀ l, ¬ IsText s l from fun l hl => ht ⟨l, hl⟩)
      have hq := eql_zero
      have hgd := guard_zero
      clear ht
      go_enter Try.func3, Try.ntmps3
      go_wp2_with (first
        | (go_at_call 7; refine (parse_calls s _).mono ?_; intro e w2 hP; obtain ⟨rfl, hB2⟩ := hP.none HL.out; clear hP)
        | (apply wpList_store_mid (ty := 24) (x := .tmp 3) (y := .tmp 12) (o := 0) (cells := (cells8 zeroD).toArray); (case ho => exact rfl); (case hgd => exact rfl); (case hx => exact rfl); (case hy => exact digV_agg _); (case ht => exact there_32 (alloc_new _ _ _ rfl) rfl zeroD rfl); (case hi => exact size24); (case h1 => exact all_oneCell_toArray (cells8_one _)); obtain ⟨hB3, hd3⟩ := new_digest w2 zeroD rfl; show wpList _ _ _ _ _ ((w2.alloc (.cells zero32 24 (0, 0))).setCells w2.heap.size 0 (cells8 zeroD)); generalize (w2.alloc (.cells zero32 24 (0, 0))).setCells w2.heap.size 0 (cells8 zeroD) = w3 at hB3 hd3 ⊢)
        | (refine wpList_load_rowW (by kernel_rfl) 24 (.tmp 3) rfl w2.heap.size rfl 24 (cells8 zeroD).toArray (0, 0) (.array 32 5) hd3 und24 rfl size24 ?_; rw [← digV_agg])
        | (go_at_call 6; refine (HN.out _).mono ?_; rintro e w5 ⟨rfl, hB5⟩))
      go_ret
      have b3 := hB2.trans (hB3.mono hB2.size)
      exact ⟨rfl, b3.trans (hB5.mono b3.size)⟩
end Go.Proofs.Ytegjphfkkafomaa.Dg
