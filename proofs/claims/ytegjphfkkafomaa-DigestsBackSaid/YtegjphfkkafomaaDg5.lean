/- Parse, by the program: the digits' walk. -/
import Derived.Test.YtegjphfkkafomaaDg4
namespace Go.Proofs.Ytegjphfkkafomaa.Dg
open Go.RowKit Go.Proofs Go.Proofs.YtegjphfkkafomaaW.PrintWords Go.Proofs.YtegjphfkkafomaaW.PrintLast Go.Proofs.YtegjphfkkafomaaW.PrintMore

structure PaI (w : World) (r : ByteArray) (k : Nat) (wr : World) : Prop where
  below : Below w.heap.size w wr
  o : wr.heap[w.heap.size]? = some (.cells zero32 24 (0, 0))
  d : wr.heap[w.heap.size + 1]? = some (.cells (cells8 (partL r.data.toList k)).toArray 24 (0, 0))
  it : wr.heap[w.heap.size + 1 + 1]? = some (.stringIter r k)
theorem zero32_cells : zero32 = (cells8 zeroD).toArray := by kernel_rfl
theorem PaI.start (w : World) (r : ByteArray) : PaI w r 0 (((w.alloc (.cells zero32 24 (0, 0))).alloc (.cells zero32 24 (0, 0))).iter r 0) := by
  refine ⟨((((Below.refl _ _).alloc (Nat.le_refl _) _).alloc (by simp) _).alloc (by simp; omega) _), ?_, ?_, ?_⟩
  · show (((w.alloc _).alloc _).alloc _).heap[_]? = _
    rw [Below.heap_alloc _ _ _ (by simp; omega)]
    exact two_new _ _ _
  · show (((w.alloc _).alloc _).alloc _).heap[_]? = _
    rw [Below.heap_alloc _ _ _ (by simp), partL_zero, ← zero32_cells]
    exact alloc_new _ _ _ (by simp)
  · exact alloc_new _ _ _ (by simp)
theorem PaI.next {w wr : World} {r : ByteArray} {k : Nat} (h : PaI w r k wr) (j : Nat) : Below w.heap.size w (wr.iterAt (w.heap.size + 1 + 1) r j) ∧ (wr.iterAt (w.heap.size + 1 + 1) r j).heap[w.heap.size]? = some (.cells zero32 24 (0, 0)) ∧
    (wr.iterAt (w.heap.size + 1 + 1) r j).heap[w.heap.size + 1]? = some (.cells (cells8 (partL r.data.toList k)).toArray 24 (0, 0)) ∧ (wr.iterAt (w.heap.size + 1 + 1) r j).heap[w.heap.size + 1 + 1]? = some (.stringIter r j) := by
  refine ⟨Lib.below_iterAt h.below (by omega) r j, ?_, ?_, Lib.iterAt_heap wr _ r k j h.it⟩
  · rw [Lib.iterAt_other _ _ _ _ _ (by omega)]
    exact h.o
  · rw [Lib.iterAt_other _ _ _ _ _ (by omega)]
    exact h.d
attribute [local irreducible] digV Go.wpQuiet
set_option maxHeartbeats 4000000 in
set_option maxRecDepth 100000 in
theorem parse_digits (r : ByteArray) (w : World) (h : r.size = 64) : Calls Try.prog 7 #[.string (preS ++ r)] w (PEnd (preS ++ r) w) := by
  have HC := Lib.hid (fun w => cut_yes preS r w)
  have hS := PaI.start w r
  have HN := Lib.hid (fun k (hk : k < 64) => not_text_of_digit r k hk)
  have HY := Lib.hid (isText_of r h)
  have HH := Lib.hid h
  have h1 : ((r.size : Int) == 64) = true := beq_iff_eq.mpr (by omega)
  have h2 : ((r.size : Int) != 64) = false := by rw [bne, h1]; rfl
  have h3 : (r.size : Int) = 64 := by omega
  clear h h3
  generalize preS ++ r = s at *
  go_enter Try.func7, Try.ntmps7
  go_wp2_with (go_at_call 15; refine (HC.out _).mono ?_; rintro e w2 ⟨rfl, rfl⟩)
  go_loopg [9] 64 (fun k _ wr => ∃ i : Nat, i ≤ 64 ∧ (∀ j, j < i → 0 ≤ hv (r.data.toList.getD j 0)) ∧ PaI w r i wr ∧ k = 64 - i)
  case atStart => exact ⟨0, by omega, (fun j hj => by omega), hS, rfl⟩
  case round =>
    clear hS
    obtain ⟨i, hi, hall, P, rfl⟩ := hrel
    have HA := Lib.hid hall
    clear hall
    by_cases hlt : i < 64
    · have hp : i < r.size := by have := HH.out; omega
      have hgd : r.data.toList.getD i 0 = r[i]'hp := by
        rw [List.getD_eq_getElem?_getD, List.getElem?_eq_getElem (by simpa using hp)]
        simp
        rfl
      by_cases ha : (r[i]'hp).toNat < 128
      · have hnx : ∀ ty, (Instr.next (.pointer (some ⟨w.heap.size + 1 + 1, 0, none⟩)) true ty).run Try.prog wr = _ := fun ty => Lib.run_next_ascii_at wr (w.heap.size + 1 + 1) r i ty P.it hp ha
        obtain ⟨hB2, ho2, hd2, hi2⟩ := P.next (i + 1)
        obtain ⟨c, hc⟩ : ∃ c, c = (r[i]'hp).toNat := ⟨_, rfl⟩
        have hcu : c.toUInt8 = r.data.toList.getD i 0 := by rw [hgd, hc]; simp
        have HR0 := fun w => rune_low c w (by omega)
        rw [hcu] at HR0
        have hvr := hv_range (r.data.toList.getD i 0)
        rw [← hc] at hnx
        clear hc hcu hgd ha P
        generalize wr.iterAt (w.heap.size + 1 + 1) r (i + 1) = w2 at *
        by_cases hneg : hv (r.data.toList.getD i 0) < 0
        · rw [show hv (r.data.toList.getD i 0) = -1 from by omega] at HR0
          have HR := Lib.hid HR0
          have HX := Lib.hid (HN.out i hlt hneg)
          clear HR0 hneg hvr
          go_wp2_with (first
            | (go_at_call 16; refine (HR.out _).mono ?_; rintro e w3 ⟨rfl, rfl⟩)
            | (refine wpList_store_mid rfl 24 (.tmp 2) (.tmp 33) rfl w.heap.size 0 (cells8 zeroD).toArray rfl zero_lit (there_32 ho2 rfl zeroD rfl) size24 (all_oneCell_toArray (cells8_one _)) ?_))
          refine bodyPost_ret (v := .tuple #[.agg (cells8 zeroD).toArray, .int .i64 10]) ?_ rfl ⟨zeroD, 10, by rw [digV_agg], .inr ⟨rfl, rfl, HX.out⟩, setCells_below _ _ _ _ _ (Nat.le_refl _) hB2⟩
          exact results_cell_tmp Try.results7 _ _ w.heap.size 24 (cells8 zeroD).toArray (0, 0) (.array 32 5) (.int .i64 10) rfl rfl (setCells_whole _ _ _ ho2 rfl) und24 rfl size24
        · obtain ⟨m, hm⟩ : ∃ m : Nat, m = hvN r.data.toList i := ⟨_, rfl⟩
          have hm' : hv (r.data.toList.getD i 0) = (m : Int) := by rw [hm]; unfold hvN; omega
          have hm16 : m < 16 := by omega
          rw [hm'] at HR0
          have HR := Lib.hid HR0
          obtain ⟨v, hv0⟩ : ∃ v, v = fB (partL r.data.toList i) (i / 2) := ⟨_, rfl⟩
          have hv16 : v < 16 := by
            rw [hv0, partL_fB _ _ hlt]
            have := hvN_lt r.data.toList (i - 1)
            split <;> omega
          obtain ⟨j, hj⟩ : ∃ j, j = i / 2 := ⟨_, rfl⟩
          have hcell : w2.cell? ⟨w.heap.size + 1, j, none⟩ = some (.int .u8 (v : Int)) := by
            rw [block_cell hd2, List.getElem?_toArray, hv0, hj]
            exact cells8_get _ _ (by rw [partL_length]; omega)
          have hfz : w2.frozen? ⟨w.heap.size + 1, j, none⟩ = false := block_frozen hd2 j
          have hset := Lib.hid (show (w2.setCell ⟨w.heap.size + 1, j, none⟩ (.int .u8 ((v : Int) * 16 + (m : Int)))).heap[w.heap.size + 1]? = some (.cells (cells8 (partL r.data.toList (i + 1))).toArray 24 (0, 0)) from by
            rw [show (v : Int) * 16 + (m : Int) = ((v * 16 + m : Nat) : Int) from by omega, block_set hd2, cells8_set, partL_succ _ _ hlt, ← hv0, ← hj, ← hm])
          have hall : ∀ q, q < i + 1 → 0 ≤ hv (r.data.toList.getD q 0) := fun q hq => by
            by_cases e : q = i
            · rw [e, hm']; omega
            · exact HA.out q (by omega)
          have HA2 := Lib.hid hall
          have t1 : Int.tdiv (i : Int) 2 = (j : Int) := by rw [Int.tdiv_eq_ediv_of_nonneg (by omega)]; omega
          have t3 : (i : Int) / 2 = (j : Int) := by omega
          have t4 : (j : Int) < 32 := by omega
          have t5 : (0 : Int) ≤ (j : Int) := by omega
          have t6 : ((j : Int)).toNat = j := by omega
          have t7 : (m : Int) % 256 = (m : Int) := by omega
          have t8 : ¬ (m : Int) < 0 := by omega
          clear HR0 hneg hvr hm hm' hall hv0 hj
          go_wp2_with (first
            | (go_at_call 16; refine (HR.out _).mono ?_; rintro e w3 ⟨rfl, rfl⟩))
          go_roundg (64 - (i + 1))
          case measure => clear t1 t3 t4 t5 t6; omega
          case rel =>
            refine ⟨i + 1, by omega, HA2.out, ⟨hB2.setCell (p := ⟨w.heap.size + 1, j, none⟩) (by simp) _, ?_, hset.out, ?_⟩, rfl⟩
            · rw [Below.heap_setCell _ _ _ _ (by simp)]
              exact ho2
            · rw [Below.heap_setCell _ _ _ _ (by simp)]
              exact hi2
      · have hnx : ∀ ty, (Instr.next (.pointer (some ⟨w.heap.size + 1 + 1, 0, none⟩)) true ty).run Try.prog wr = _ := fun ty => Lib.run_next_any_at wr (w.heap.size + 1 + 1) r i ty P.it hp
        obtain ⟨hB2, ho2, hd2, hi2⟩ := P.next (i + (Utf8.decode r i).2)
        have hc128 := (decode_high r i hp (by omega)).1
        have hvn : hv (r.data.toList.getD i 0) = -1 := by rw [hgd]; exact hv_high _ (by omega)
        have HX := Lib.hid (HN.out i hlt (by omega))
        obtain ⟨c, hc⟩ : ∃ c, c = (Utf8.decode r i).1 := ⟨_, rfl⟩
        rw [← hc] at hnx hc128
        have HR := Lib.hid (fun w => rune_high (c : Int) w (by omega))
        clear hc hvn hgd ha P
        generalize wr.iterAt (w.heap.size + 1 + 1) r (i + (Utf8.decode r i).2) = w2 at *
        go_wp2_with (first
          | (go_at_call 16; refine (HR.out _).mono ?_; rintro e w3 ⟨rfl, hB3⟩; have hB3' := hB2.trans (hB3.mono hB2.size); have ho3 := (hB3.block _ (lt_of_block ho2)).trans ho2)
          | (refine wpList_store_mid rfl 24 (.tmp 2) (.tmp 33) rfl w.heap.size 0 (cells8 zeroD).toArray rfl zero_lit (there_32 ho3 rfl zeroD rfl) size24 (all_oneCell_toArray (cells8_one _)) ?_))
        refine bodyPost_ret (v := .tuple #[.agg (cells8 zeroD).toArray, .int .i64 10]) ?_ rfl ⟨zeroD, 10, by rw [digV_agg], .inr ⟨rfl, rfl, HX.out⟩, setCells_below _ _ _ _ _ (Nat.le_refl _) hB3'⟩
        exact results_cell_tmp Try.results7 _ _ w.heap.size 24 (cells8 zeroD).toArray (0, 0) (.array 32 5) (.int .i64 10) rfl rfl (setCells_whole _ _ _ ho3 rfl) und24 rfl size24
    · have hp : ¬ i < r.size := by have := HH.out; omega
      have e64 : i = 64 := by omega
      subst e64
      have hnx : ∀ ty, (Instr.next (.pointer (some ⟨w.heap.size + 1 + 1, 0, none⟩)) true ty).run Try.prog wr = _ := fun ty => Lib.run_next_end_at wr (w.heap.size + 1 + 1) r 64 ty P.it hp
      have hL := partL_length r.data.toList 64
      have HT := Lib.hid (HY.out HA.out)
      have hd2 := P.d
      have ho2 := P.o
      have hB2 := P.below
      clear P
      generalize partL r.data.toList 64 = L at *
      go_wp2_with (first
        | (refine wpList_load_row rfl 24 (.tmp 4) rfl (w.heap.size + 1) rfl 24 (cells8 L).toArray (0, 0) (.array 32 5) hd2 und24 rfl (digV_size _ hL) ?_)
        | (refine wpList_store_mid rfl 24 (.tmp 2) (.tmp 45) rfl w.heap.size 0 (cells8 L).toArray rfl rfl (there_32 ho2 rfl L hL) (digV_size _ hL) (all_oneCell_toArray (cells8_one _)) ?_))
      refine bodyPost_ret (v := .tuple #[.agg (cells8 L).toArray, .int .i64 0]) ?_ rfl ⟨L, 0, by rw [digV_agg], .inl ⟨rfl, HT.out⟩, setCells_below _ _ _ _ _ (Nat.le_refl _) hB2⟩
      exact results_cell_tmp Try.results7 _ _ w.heap.size 24 (cells8 L).toArray (0, 0) (.array 32 5) (.int .i64 0) rfl rfl (setCells_whole _ _ _ ho2 (by rw [cells8_length, hL]; rfl)) und24 rfl (digV_size _ hL)
theorem parse_calls (s : ByteArray) (w : World) : Calls Try.prog 7 #[.string s] w (PEnd s w) := by
  by_cases h : ∃ r, s = preS ++ r
  · obtain ⟨r, rfl⟩ := h
    by_cases h64 : r.size = 64
    · exact parse_digits r w h64
    · exact parse_size r w h64
  · exact parse_head s w (fun r e => h ⟨r, e⟩)
end Go.Proofs.Ytegjphfkkafomaa.Dg
