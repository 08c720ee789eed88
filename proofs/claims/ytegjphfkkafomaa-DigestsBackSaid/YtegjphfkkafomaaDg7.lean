/- Parse, by the reference: the walk. -/
import Derived.Test.YtegjphfkkafomaaDg6
import Derived.Test.YtegjphfkkafomaaQTail
namespace Go.Proofs.Ytegjphfkkafomaa.Dg
open Go.RowKit Go.Proofs Go.Proofs.YtegjphfkkafomaaW.PrintWords Go.Proofs.YtegjphfkkafomaaW.PrintLast Go.Proofs.YtegjphfkkafomaaW.PrintMore

structure RpI (w : World) (s : ByteArray) (k : Nat) (wr : World) : Prop where
  below : Below w.heap.size w wr
  o : wr.heap[w.heap.size]? = some (.cells zero32 24 (0, 0))
  d : wr.heap[w.heap.size + 1]? = some (.cells (cells8 (refL s.data.toList k)).toArray 24 (0, 0))
theorem RpI.start (w : World) (s : ByteArray) : RpI w s 0 ((w.alloc (.cells zero32 24 (0, 0))).alloc (.cells zero32 24 (0, 0))) := by
  refine ⟨((Below.refl _ _).alloc (Nat.le_refl _) _).alloc (by simp) _, two_new _ _ _, ?_⟩
  rw [refL_zero, ← zero32_cells]
  exact alloc_new _ _ _ (by simp)
theorem RpI.keepB {w w2 w3 : World} {s : ByteArray} {k : Nat} (h : RpI w s k w2) (hB : Below w2.heap.size w2 w3) : RpI w s k w3 :=
  ⟨h.below.trans (hB.mono h.below.size), by rw [hB.block _ (lt_of_block h.o)]; exact h.o, by rw [hB.block _ (lt_of_block h.d)]; exact h.d⟩
theorem index_str (s : ByteArray) (p : Nat) (h : p < s.size) (w : World) : (Instr.index 9 (.string s) (.int .i64 (p : Int))).run Try.prog w = .ok (.int .u8 (((s.data.toList.getD p 0).toNat : Nat) : Int)) w := by
  have hb : (0 : Int) ≤ (p : Int) ∧ (p : Int) < (s.size : Int) := by omega
  have hn : ((p : Int)).toNat = p := by omega
  have hg : s.data.toList.getD p 0 = s[p]'h := by
    rw [List.getD_eq_getElem?_getD, List.getElem?_eq_getElem (by simpa using h)]
    simp
    rfl
  rw [hg]
  go_simp
attribute [local irreducible] digV Go.wpQuiet
set_option maxHeartbeats 4000000 in
set_option maxRecDepth 100000 in
theorem refParse_calls (s : ByteArray) (w : World) : Calls Try.prog 9 #[.string s] w (PEnd s w) := by
  have hS := RpI.start w s
  have HD := Lib.hid (fun (l : List Nat) (w : World) (hl : l.length = 32) (hb : ∀ x ∈ l, x < 256) => refText_calls w l hl hb)
  go_enter Try.func9, Try.ntmps9
  go_wp2
  go_loopg [5] 32 (fun k v5 wr => ∃ i : Nat, i ≤ 32 ∧ v5 = .int .i64 i ∧ RpI w s i wr ∧ k = 32 - i)
  case atStart => exact ⟨0, by omega, rfl, hS, rfl⟩
  case round =>
    clear hS
    obtain ⟨i, hi, rfl, R, rfl⟩ := hrel
    by_cases hgo : i < 32 ∧ 8 + 2 * i < s.size
    · obtain ⟨h1, h2⟩ := hgo
      obtain ⟨p, hp⟩ : ∃ p, p = 7 + 2 * i := ⟨_, rfl⟩
      obtain ⟨q, hq⟩ : ∃ q, q = 8 + 2 * i := ⟨_, rfl⟩
      have c1 : (i : Int) < 32 := by omega
      have c2 : (0 : Int) ≤ (i : Int) := by omega
      have c3 : ((i : Int)).toNat = i := by omega
      have W1 := Lib.hid (show IntKind.i64.wrap (2 * (i : Int)) = 2 * (i : Int) from by rw [IntKind.wrap_i64]; omega)
      have W2 := Lib.hid (show IntKind.i64.wrap (7 + 2 * (i : Int)) = (p : Int) from by rw [IntKind.wrap_i64]; omega)
      have W3 := Lib.hid (show IntKind.i64.wrap (8 + 2 * (i : Int)) = (q : Int) from by rw [IntKind.wrap_i64]; omega)
      have x1 := index_str s p (by omega)
      have x2 := index_str s q (by omega)
      have c4 : 7 + 2 * (i : Int) + 1 < (s.size : Int) := by omega
      obtain ⟨a, ha⟩ : ∃ a, a = s.data.toList.getD p 0 := ⟨_, rfl⟩
      obtain ⟨b, hb⟩ : ∃ b, b = s.data.toList.getD q 0 := ⟨_, rfl⟩
      rw [← ha] at x1
      rw [← hb] at x2
      have ra := hv_range a
      have rb := hv_range b
      have HVa := Lib.hid (fun w => value_calls a w)
      have HVb := Lib.hid (fun w => value_calls b w)
      have hset := Lib.hid (show ∀ wr' : World, RpI w s i wr' → RpI w s (i + 1) (wr'.setCell ⟨w.heap.size + 1, i, none⟩ (.int .u8 (16 * ((hv a).toNat : Int) + ((hv b).toNat : Int)))) from fun wr' R' => by
        refine ⟨R'.below.setCell (p := ⟨w.heap.size + 1, i, none⟩) (by simp) _, ?_, ?_⟩
        · rw [Below.heap_setCell _ _ _ _ (by simp)]
          exact R'.o
        · rw [show (16 * ((hv a).toNat : Int) + ((hv b).toNat : Int)) = ((16 * (hv a).toNat + (hv b).toNat : Nat) : Int) from by omega, block_set R'.d, cells8_set, refL_succ]
          unfold hvN
          rw [← hp, ← hq, ← ha, ← hb])
      clear ha hb hp hq
      have ra' : (hv a).toNat < 16 := by omega
      have rb' : (hv b).toNat < 16 := by omega
      clear ra rb
      generalize (hv a).toNat = m at *
      generalize (hv b).toNat = n at *
      have w4 : IntKind.u8.wrap (16 * (m : Int)) = 16 * (m : Int) := by rw [IntKind.wrap_u8]; omega
      have w5 : IntKind.u8.wrap (16 * (m : Int) + (n : Int)) = 16 * (m : Int) + (n : Int) := by rw [IntKind.wrap_u8]; omega
      go_wp2
      have w1 := W1.out
      have w2 := W2.out
      have w3 := W3.out
      refine QT.wp_region_draws_tail 16 (by kernel_rfl) (by kernel_rfl) ?_
      simp only [List.take_succ_cons, List.take_zero, List.drop_succ_cons, List.drop_zero]
      quiet_step (fail)
      quiet_step (fail)
      quiet_step (fail)
      quiet_step (fail)
      quiet_step (fail)
      quiet_step (fail)
      quiet_step ((go_at_call 18; exact Calls.quiet_of_same (HVa.out _)))
      quiet_step (fail)
      quiet_step (fail)
      quiet_step (fail)
      quiet_step (fail)
      quiet_step (fail)
      quiet_step (fail)
      quiet_step ((go_at_call 18; exact Calls.quiet_of_same (HVb.out _)))
      quiet_step (fail)
      quiet_step (fail)
      refine wpQuiet_nil ?_
      intro w9 hw'
      obtain ⟨nq, hw''⟩ := hw'
      have R9 := R.keepB (pw_below_drewN (Below.refl _ _) nq)
      rw [← hw''] at R9
      have hcell : w9.cell? ⟨w.heap.size + 1, i, none⟩ = some (.int .u8 ((fB (refL s.data.toList i) i : Nat) : Int)) := by
        rw [block_cell R9.d, List.getElem?_toArray]
        exact cells8_get _ _ (by rw [refL_length]; exact h1)
      have hfz : w9.frozen? ⟨w.heap.size + 1, i, none⟩ = false := block_frozen R9.d i
      clear hw'' R w1 w2 w3 w4 w5 x1 x2
      go_wp2
      go_roundg (32 - (i + 1))
      case measure => omega
      case rel => exact ⟨i + 1, by omega, by simp, hset.out _ R9, rfl⟩
    · have hL := refL_length s.data.toList i
      have hLb := refL_lt s.data.toList i
      have HT := Lib.hid (show (∃ m, IsText s m) → textS (refL s.data.toList i) = s from fun ⟨m, hm⟩ => by
        have hz := hm.size
        have e32 : i = 32 := by omega
        rw [e32, refL_of_text hm]
        exact hm.2.2.symm)
      have HR := Lib.hid (show ∀ w, Calls Try.prog 10 #[.agg (cells8 (refL s.data.toList i)).toArray] w fun e w' => e = .returned (.string (textS (refL s.data.toList i))) ∧ Below w.heap.size w w' from fun w => by rw [← digV_agg]; exact HD.out (refL s.data.toList i) w hL hLb)
      have hd2 := R.d
      have ho2 := R.o
      have hB2 := R.below
      have hbq := str_beq (textS (refL s.data.toList i)) s
      have hor : ¬ i < 32 ∨ (i < 32 ∧ s.size ≤ 8 + 2 * i) := by omega
      clear R hgo HD
      generalize refL s.data.toList i = L at *
      obtain ⟨t, ht⟩ : ∃ t, t = textS L := ⟨_, rfl⟩
      rw [← ht] at hbq HR HT
      have HTT := Lib.hid ht
      clear ht
      by_cases hts : t = s
      · have hq : (t.toList == s.toList) = true := by rw [hbq, decide_eq_true hts]
        have HP := Lib.hid (show IsText s L from ⟨hL, hLb, by rw [← hts, HTT.out]⟩)
        clear hbq hts
        rcases hor with h1 | ⟨h1, h2⟩
        · have c1 : ¬ (i : Int) < 32 := by omega
          go_wp2_with (first
            | (refine wpList_load_row rfl 24 (.tmp 4) rfl (w.heap.size + 1) rfl 24 (cells8 L).toArray (0, 0) (.array 32 5) hd2 und24 rfl (digV_size _ hL) ?_)
            | (go_at_call 10; refine (HR.out _).mono ?_; rintro e w3 ⟨rfl, hB3⟩; have hd3 := (hB3.block _ (lt_of_block hd2)).trans hd2; have ho3 := (hB3.block _ (lt_of_block ho2)).trans ho2; have hB3' := hB2.trans (hB3.mono hB2.size); clear hd2 ho2 hB2 hB3)
            | (refine wpList_load_row rfl 24 (.tmp 4) rfl (w.heap.size + 1) rfl 24 (cells8 L).toArray (0, 0) (.array 32 5) hd3 und24 rfl (digV_size _ hL) ?_)
            | (refine wpList_store_mid rfl 24 (.tmp 2) (.tmp 40) rfl w.heap.size 0 (cells8 L).toArray rfl rfl (there_32 ho3 rfl L hL) (digV_size _ hL) (all_oneCell_toArray (cells8_one _)) ?_))
          refine bodyPost_ret (v := .tuple #[.agg (cells8 L).toArray, .int .i64 0]) ?_ rfl ⟨L, 0, by rw [digV_agg], .inl ⟨rfl, HP.out⟩, setCells_below _ _ _ _ _ (Nat.le_refl _) hB3'⟩
          exact results_cell_tmp Try.results9 _ _ w.heap.size 24 (cells8 L).toArray (0, 0) (.array 32 5) (.int .i64 0) rfl rfl (setCells_whole _ _ _ ho3 (by rw [cells8_length, hL]; rfl)) und24 rfl (digV_size _ hL)
        · have c1 : (i : Int) < 32 := by omega
          have c2 : ¬ 7 + 2 * (i : Int) + 1 < (s.size : Int) := by omega
          go_wp2_with (first
            | (refine wpList_load_row rfl 24 (.tmp 4) rfl (w.heap.size + 1) rfl 24 (cells8 L).toArray (0, 0) (.array 32 5) hd2 und24 rfl (digV_size _ hL) ?_)
            | (go_at_call 10; refine (HR.out _).mono ?_; rintro e w3 ⟨rfl, hB3⟩; have hd3 := (hB3.block _ (lt_of_block hd2)).trans hd2; have ho3 := (hB3.block _ (lt_of_block ho2)).trans ho2; have hB3' := hB2.trans (hB3.mono hB2.size); clear hd2 ho2 hB2 hB3)
            | (refine wpList_load_row rfl 24 (.tmp 4) rfl (w.heap.size + 1) rfl 24 (cells8 L).toArray (0, 0) (.array 32 5) hd3 und24 rfl (digV_size _ hL) ?_)
            | (refine wpList_store_mid rfl 24 (.tmp 2) (.tmp 40) rfl w.heap.size 0 (cells8 L).toArray rfl rfl (there_32 ho3 rfl L hL) (digV_size _ hL) (all_oneCell_toArray (cells8_one _)) ?_))
          refine bodyPost_ret (v := .tuple #[.agg (cells8 L).toArray, .int .i64 0]) ?_ rfl ⟨L, 0, by rw [digV_agg], .inl ⟨rfl, HP.out⟩, setCells_below _ _ _ _ _ (Nat.le_refl _) hB3'⟩
          exact results_cell_tmp Try.results9 _ _ w.heap.size 24 (cells8 L).toArray (0, 0) (.array 32 5) (.int .i64 0) rfl rfl (setCells_whole _ _ _ ho3 (by rw [cells8_length, hL]; rfl)) und24 rfl (digV_size _ hL)
      · have hq : (t.toList == s.toList) = false := by rw [hbq, decide_eq_false hts]
        have HX := Lib.hid (show ∀ m, ¬ IsText s m from fun m hm => hts (HT.out ⟨m, hm⟩))
        clear hbq hts
        rcases hor with h1 | ⟨h1, h2⟩
        · have c1 : ¬ (i : Int) < 32 := by omega
          go_wp2_with (first
            | (refine wpList_load_row rfl 24 (.tmp 4) rfl (w.heap.size + 1) rfl 24 (cells8 L).toArray (0, 0) (.array 32 5) hd2 und24 rfl (digV_size _ hL) ?_)
            | (go_at_call 10; refine (HR.out _).mono ?_; rintro e w3 ⟨rfl, hB3⟩; have ho3 := (hB3.block _ (lt_of_block ho2)).trans ho2; have hB3' := hB2.trans (hB3.mono hB2.size); clear hd2 ho2 hB2 hB3)
            | (refine wpList_store_mid rfl 24 (.tmp 2) (.tmp 39) rfl w.heap.size 0 (cells8 zeroD).toArray rfl zero_lit (there_32 ho3 rfl zeroD rfl) size24 (all_oneCell_toArray (cells8_one _)) ?_))
          refine bodyPost_ret (v := .tuple #[.agg (cells8 zeroD).toArray, .int .i64 10]) ?_ rfl ⟨zeroD, 10, by rw [digV_agg], .inr ⟨rfl, rfl, HX.out⟩, setCells_below _ _ _ _ _ (Nat.le_refl _) hB3'⟩
          exact results_cell_tmp Try.results9 _ _ w.heap.size 24 (cells8 zeroD).toArray (0, 0) (.array 32 5) (.int .i64 10) rfl rfl (setCells_whole _ _ _ ho3 rfl) und24 rfl size24
        · have c1 : (i : Int) < 32 := by omega
          have c2 : ¬ 7 + 2 * (i : Int) + 1 < (s.size : Int) := by omega
          go_wp2_with (first
            | (refine wpList_load_row rfl 24 (.tmp 4) rfl (w.heap.size + 1) rfl 24 (cells8 L).toArray (0, 0) (.array 32 5) hd2 und24 rfl (digV_size _ hL) ?_)
            | (go_at_call 10; refine (HR.out _).mono ?_; rintro e w3 ⟨rfl, hB3⟩; have ho3 := (hB3.block _ (lt_of_block ho2)).trans ho2; have hB3' := hB2.trans (hB3.mono hB2.size); clear hd2 ho2 hB2 hB3)
            | (refine wpList_store_mid rfl 24 (.tmp 2) (.tmp 39) rfl w.heap.size 0 (cells8 zeroD).toArray rfl zero_lit (there_32 ho3 rfl zeroD rfl) size24 (all_oneCell_toArray (cells8_one _)) ?_))
          refine bodyPost_ret (v := .tuple #[.agg (cells8 zeroD).toArray, .int .i64 10]) ?_ rfl ⟨zeroD, 10, by rw [digV_agg], .inr ⟨rfl, rfl, HX.out⟩, setCells_below _ _ _ _ _ (Nat.le_refl _) hB3'⟩
          exact results_cell_tmp Try.results9 _ _ w.heap.size 24 (cells8 zeroD).toArray (0, 0) (.array 32 5) (.int .i64 10) rfl rfl (setCells_whole _ _ _ ho3 rfl) und24 rfl size24
end Go.Proofs.Ytegjphfkkafomaa.Dg
