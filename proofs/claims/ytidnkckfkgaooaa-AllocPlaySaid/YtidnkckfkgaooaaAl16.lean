/- A map that is none takes nothing: the law's walk. -/
import Derived.Test.YtidnkckfkgaooaaAl15
namespace Go.Proofs.Ytidnkckfkgaooaa.Al
open Go.RowKit Go.Shelf Go.Proofs Go.Proofs.Ytidnkckfkgaooaa.Ext Go.Proofs.Ytidnkckfkgaooaa.Pure Go.Proofs.YtidnkckfkgaooaaW.PrintWords Go.Proofs.YtidnkckfkgaooaaW.PrintLast Go.Proofs.YtidnkckfkgaooaaW.PrintMore

theorem size_none (w : World) (v : Value) (h : NoMap w v) : Calls Try.prog 37 #[v] w fun e w' => e = .returned (.int .i64 0) ∧ w = w' := by
  rcases h with rfl | ⟨p, rfl, h⟩
  · exact size_nil w
  · exact size_map w p 0 _ h
theorem bytes_none (w : World) (v : Value) (h : NoMap w v) : Calls Try.prog 38 #[v] w fun e w' => e = .returned (.string ⟨#[]⟩) ∧ w = w' := by
  rcases h with rfl | ⟨p, rfl, h⟩
  · exact bytes_nil w
  · exact bytes_map w p 0 _ h
theorem used_none (w : World) (v : Value) (h : NoMap w v) : Calls Try.prog 27 #[v] w fun e w' => e = .returned (.int .i64 0) ∧ Drawn0 w w' := by
  rcases h with rfl | ⟨p, rfl, h⟩
  · exact used_nil w
  · have := used_map w p 0 _ h (by show 0 ≤ _; omega)
    rw [count_empty] at this
    exact this
theorem size55 : (Try.prog.info? 55).map (·.size) = some 3 := by kernel_rfl
theorem und55 : (match Try.prog.underlying 55 with | some (.struct _) => true | _ => false) = true := by kernel_rfl
theorem und55s : ∃ fs, Try.prog.underlying 55 = some (.struct fs) := by
  have h := und55
  split at h
  · exact ⟨_, by assumption⟩
  · cases h
theorem ActOk.keepB {w w' : World} {x : ActV} (h : ActOk w x) (hB : Below w.heap.size w w') : ActOk w' x := ⟨h.1.keepB hB, h.2⟩
theorem act_row1 {W : World} {x : ActV} {g : Nat} (h : W.heap[g]? = some (.cells #[.int .u8 x.kind, .int .i64 x.n, x.v] 55 (0, 0))) (hx : ActOk W x) : ActRow W (.slice (some ⟨g, 0, none⟩) 1 1) [x] := by
  refine .inr ⟨_, _, rfl, fun i y hi => ?_⟩
  match i with
  | 0 =>
    simp at hi
    subst hi
    rw [show (⟨g, 0, none⟩ : Addr).add (0 * 3) = ⟨g, 0, none⟩ from add_zero _ _]
    refine ⟨?_, ?_, ?_, hx⟩
    · rw [block_cell h]; rfl
    · unfold fld; rw [block_cell h]; rfl
    · unfold fld; rw [block_cell h]; rfl
  | i + 1 => simp at hi
attribute [local irreducible] takeL takeS giveE
set_option maxRecDepth 100000 in
set_option maxHeartbeats 4000000 in
theorem allocNone_calls (w : World) (x : ActV) (hx : ActOk w x) : Calls Try.prog 9 #[.agg #[.int .u8 x.kind, .int .i64 x.n, x.v]] w fun e w' => e = .returned (.bool true) ∧ Below w.heap.size w w' := by
  obtain ⟨fs, hfs⟩ := und55s
  obtain ⟨o, c, hv⟩ := hx.1.form
  have HX := Lib.hid hx
  have hB0 := Lib.hid (show ∀ o, Below w.heap.size w (w.alloc o) from fun o => (Below.refl _ _).alloc (Nat.le_refl _) _)
  have hB1 := Lib.hid (show ∀ o o2, Below w.heap.size w ((w.alloc o).alloc o2) from fun o o2 => ((Below.refl _ _).alloc (Nat.le_refl _) _).alloc (by simp) _)
  have HG := Lib.hid (show Calls Try.prog 31 #[.slice (some ⟨w.heap.size + 1, 0, none⟩) 1 1, .int .i64 1] ((w.alloc (.cells #[.int .u8 x.kind, .int .i64 x.n, x.v] 55)).alloc (.cells #[.int .u8 x.kind, .int .i64 x.n, x.v] 55)) fun e w' => e = .returned (.bool (greatA [x] 1)) ∧ (w.alloc (.cells #[.int .u8 x.kind, .int .i64 x.n, x.v] 55)).alloc (.cells #[.int .u8 x.kind, .int .i64 x.n, x.v] 55) = w' from
    great_calls _ _ [x] 1 (act_row1 (alloc_new _ _ _ (by simp)) (hx.keepB (hB1.out _ _))) (by simp))
  have hg : greatA [x] 1 = decide (20 < x.raw.length) := by unfold greatA; simp
  rw [hg] at HG
  clear hg
  obtain ⟨v, hvv⟩ : ∃ v, v = x.v := ⟨_, rfl⟩
  rw [← hvv] at HG hv ⊢
  generalize x.kind = kk at *
  generalize x.n = nn at *
  subst hv
  clear hvv
  go_enter Try.func9, Try.ntmps9
  by_cases h20 : 20 < x.raw.length
  · rw [decide_eq_true h20] at HG
    go_wp2_with (first
      | (refine wpList_load_row rfl 55 (.tmp 1) rfl w.heap.size rfl 55 #[.int .u8 kk, .int .i64 nn, .slice o x.raw.length c] (0, 0) (.struct fs) (alloc_new _ _ _ rfl) hfs rfl size55 ?_)
      | (go_at_call 31; refine HG.out.mono ?_; rintro e w' ⟨rfl, rfl⟩)
      | (go_at_call 30; refine (took_calls _).mono ?_; rintro e w' ⟨rfl, hT⟩))
    go_ret
    exact ⟨rfl, (hB1.out _ _).trans (hT.mono (by simp; omega))⟩
  · rw [decide_eq_false h20] at HG
    go_wp2_with (first
      | (refine wpList_load_row rfl 55 (.tmp 1) rfl w.heap.size rfl 55 #[.int .u8 kk, .int .i64 nn, .slice o x.raw.length c] (0, 0) (.struct fs) (alloc_new _ _ _ rfl) hfs rfl size55 ?_)
      | (go_at_call 31; refine HG.out.mono ?_; rintro e w' ⟨rfl, rfl⟩))
    have hb0 : ((w.alloc (.cells #[.int .u8 kk, .int .i64 nn, .slice o x.raw.length c] 55)).alloc (.cells #[.int .u8 kk, .int .i64 nn, .slice o x.raw.length c] 55)).heap[w.heap.size]? = some (.cells #[.int .u8 kk, .int .i64 nn, .slice o x.raw.length c] 55 (0, 0)) := by
      rw [Below.heap_alloc _ _ _ (by simp)]
      exact alloc_new _ _ _ rfl
    have hB2 := hB1.out (.cells #[.int .u8 kk, .int .i64 nn, .slice o x.raw.length c] 55) (.cells #[.int .u8 kk, .int .i64 nn, .slice o x.raw.length c] 55)
    generalize (w.alloc (.cells #[.int .u8 kk, .int .i64 nn, .slice o x.raw.length c] 55)).alloc (.cells #[.int .u8 kk, .int .i64 nn, .slice o x.raw.length c] 55) = w1 at *
    clear HG HX hx hB0 hB1
    generalize x.raw.length = rl at *
    go_loopg [3, 4, 5, 6] 2 (fun k v3 v4 _ _ wr => ∃ i : Nat, v4 = .int .i64 (i : Int) ∧ i ≤ 2 ∧ NoMap wr v3 ∧ wr.heap[w.heap.size]? = some (.cells #[.int .u8 kk, .int .i64 nn, .slice o rl c] 55 (0, 0)) ∧ Below w.heap.size w wr ∧ k = 2 - i)
    case atStart => exact ⟨0, rfl, by omega, .inl rfl, hb0, hB2, rfl⟩
    case round =>
      clear hb0 hB2
      obtain ⟨i, rfl, hi, hm, hb, hB, rfl⟩ := hrel
      by_cases hil : i < 2
      · have c1 : (i : Int) < 2 := by omega
        have f1 : wr.cell? ⟨w.heap.size, 1, none⟩ = some (.int .i64 nn) := by rw [block_cell hb]; rfl
        have f2 : wr.cell? ⟨w.heap.size, 2, none⟩ = some (.slice o rl c) := by rw [block_cell hb]; rfl
        have HM := Lib.hid (fun d => hm.keepB (pw_below_drewN (Below.refl wr.heap.size wr) d))
        have HT := Lib.hid (take_none wr _ nn hm)
        clear hm
        go_wp2_with (first
          | (go_at_call 26; refine HT.out.mono ?_; rintro e w' ⟨rfl, ⟨d, rfl⟩⟩)
          | (go_at_call 28; refine (give_none _ _ _ (HM.out d)).mono ?_; rintro e w' ⟨rfl, rfl⟩)
          | (go_at_call 27; refine (used_none _ _ (HM.out d)).mono ?_; rintro e w' ⟨rfl, ⟨d2, rfl⟩⟩; rw [World.drewN_drewN])
          | (go_at_call 37; refine (size_none _ _ (HM.out (d + d2))).mono ?_; rintro e w' ⟨rfl, rfl⟩)
          | (go_at_call 38; refine (bytes_none _ _ (HM.out (d + d2))).mono ?_; rintro e w' ⟨rfl, rfl⟩)
          | (go_at_call 29; refine (copy_none _ _ (HM.out (d + d2))).mono ?_; rintro e w' ⟨rfl, rfl⟩))
        have hB3 : Below wr.heap.size wr ((wr.drewN (d + d2)).alloc (.cells #[.int .i64 0, .string ⟨#[]⟩] 60)) := (pw_below_drewN (Below.refl _ _) _).alloc (Nat.le_refl _) _
        go_roundg (2 - (i + 1))
        case measure => omega
        case rel => exact ⟨i + 1, by simp, by omega, .inr ⟨_, rfl, alloc_new _ _ _ rfl⟩, (by rw [hB3.block _ (lt_of_block hb)]; exact hb), hB.trans (hB3.mono hB.size), rfl⟩
      · have c1 : ¬ (i : Int) < 2 := by omega
        go_wp2_with (go_at_call 30; refine (took_calls _).mono ?_; rintro e w' ⟨rfl, hT⟩)
        go_ret
        exact ⟨rfl, hB.trans (hT.mono hB.size)⟩
theorem allocNone_walk (w : World) (v : Value) (x : ActV) (h : v = .agg #[.int .u8 x.kind, .int .i64 x.n, x.v] ∧ ActOk w x) : Calls Try.prog 9 #[v] w fun e w' => e = .returned (.bool true) ∧ Below w.heap.size w w' := by
  obtain ⟨rfl, hx⟩ := h
  exact allocNone_calls w x hx
end Go.Proofs.Ytidnkckfkgaooaa.Al
