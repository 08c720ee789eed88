/- DigestsTell: the walk. -/
import Derived.Test.YtegjphfkkafomaaDg10
namespace Go.Proofs.Ytegjphfkkafomaa.Dg
open Go.RowKit Go.Proofs Go.Proofs.YtegjphfkkafomaaW.PrintWords Go.Proofs.YtegjphfkkafomaaW.PrintLast Go.Proofs.YtegjphfkkafomaaW.PrintMore

/-- What stands in DigestsTell: two digests that came in, and two of the text's. -/
structure TeI (w : World) (a b : List Nat) (c : List Nat) (C D : Nat) (d : List Nat) (wr : World) : Prop where
  below : Below w.heap.size w wr
  a : wr.heap[w.heap.size]? = some (.cells (cells8 a).toArray 24 (0, 0))
  b : wr.heap[w.heap.size + 1]? = some (.cells (cells8 b).toArray 24 (0, 0))
  c : wr.heap[C]? = some (.cells (cells8 c).toArray 24 (0, 0))
  d : wr.heap[D]? = some (.cells (cells8 d).toArray 24 (0, 0))
theorem TeI.keepB {w w2 w3 : World} {a b c d : List Nat} {C D : Nat} (h : TeI w a b c C D d w2) (hB : Below w2.heap.size w2 w3) : TeI w a b c C D d w3 :=
  ⟨h.below.trans (hB.mono h.below.size), by rw [hB.block _ (lt_of_block h.a)]; exact h.a, by rw [hB.block _ (lt_of_block h.b)]; exact h.b, by rw [hB.block _ (lt_of_block h.c)]; exact h.c, by rw [hB.block _ (lt_of_block h.d)]; exact h.d⟩
attribute [local irreducible] digV Go.wpQuiet
set_option maxHeartbeats 4000000 in
set_option maxRecDepth 100000 in
theorem tell_calls (a b : List Nat) (s : ByteArray) (w : World) (ha : a.length = 32) (ba : ∀ x ∈ a, x < 256) (hb : b.length = 32) (bb : ∀ x ∈ b, x < 256) :
    Calls Try.prog 4 #[digV a, digV b, .string s] w fun e w' => e = .returned (.bool true) ∧ Below w.heap.size w w' := by
  have HN := Lib.hid (fun w => named_calls w)
  have B0 : Below w.heap.size w ((w.alloc (.cells (cells8 a).toArray 24 (0, 0))).alloc (.cells (cells8 b).toArray 24 (0, 0))) := ((Below.refl _ _).alloc (Nat.le_refl _) _).alloc (by simp) _
  have h0 := two_new w (.cells (cells8 a).toArray 24 (0, 0)) (.cells (cells8 b).toArray 24 (0, 0))
  have h1 : ((w.alloc (.cells (cells8 a).toArray 24 (0, 0))).alloc (.cells (cells8 b).toArray 24 (0, 0))).heap[w.heap.size + 1]? = some (.cells (cells8 b).toArray 24 (0, 0)) := alloc_new _ _ _ (by simp)
  rw [digV_agg, digV_agg]
  by_cases h : (200 : Int) < (s.size : Int)
  · go_enter Try.func4, Try.ntmps4
    clear h0 h1
    go_wp2_with (go_at_call 6; refine (HN.out _).mono ?_; rintro e w2 ⟨rfl, hB⟩)
    go_ret
    exact ⟨rfl, B0.trans (hB.mono B0.size)⟩
  · have HTa := Lib.hid (fun w => text_calls w a ha ba)
    have HRa := Lib.hid (fun w => refText_calls w a ha ba)
    have HSa := Lib.hid (fun w => short_calls w a ha ba)
    have HUa := Lib.hid (fun w => refShort_calls w a ha ba)
    have HLab := Lib.hid (fun w => less_calls w a b ha ba hb bb)
    have HMab := Lib.hid (fun w => refLess_calls w a b ha ba hb bb)
    have HLaa := Lib.hid (fun w => less_calls w a a ha ba ha ba)
    have HMaa := Lib.hid (fun w => refLess_calls w a a ha ba ha ba)
    have hgd := guard_dig
    have H0 := Lib.hid (And.intro B0 (And.intro h0 h1))
    clear B0 h0 h1
    generalize textS a = ta at *
    generalize shortS a = sa at *
    generalize lessB a b = lab at *
    generalize lessB a a = laa at *
    go_enter Try.func4, Try.ntmps4
    go_wp2_with (first
      | (go_at_call 7; refine (parse_calls s _).mono ?_; rintro e w2 ⟨c, c1, rfl, hP, hB2⟩; obtain ⟨hc1, hc2⟩ := hP.dig; have b2 := H0.out.1.trans (hB2.mono H0.out.1.size); have a2 := (hB2.block _ (lt_of_block H0.out.2.1)).trans H0.out.2.1; have e2 := (hB2.block _ (lt_of_block H0.out.2.2)).trans H0.out.2.2; clear H0 hB2)
      | (apply wpList_store_mid (ty := 24) (x := .tmp 7) (y := .tmp 18) (o := 0) (cells := (cells8 c).toArray); (case ho => exact rfl); (case hgd => exact rfl); (case hx => exact rfl); (case hy => exact digV_agg _); (case ht => exact there_32 (alloc_new _ _ _ rfl) rfl c hc1); (case hi => exact digV_size _ hc1); (case h1 => exact all_oneCell_toArray (cells8_one _)); obtain ⟨hBx, hdx⟩ := new_digest w2 c hc1; show wpList _ _ _ _ _ ((w2.alloc (.cells zero32 24 (0, 0))).setCells w2.heap.size 0 (cells8 c)); generalize (w2.alloc (.cells zero32 24 (0, 0))).setCells w2.heap.size 0 (cells8 c) = w3 at hBx hdx ⊢; have b3 := b2.trans (hBx.mono b2.size); have a3 := (hBx.block _ (lt_of_block a2)).trans a2; have e3 := (hBx.block _ (lt_of_block e2)).trans e2; have k3 := hdx; generalize w2.heap.size = C at k3 ⊢; clear b2 a2 e2 hBx hdx)
      | (go_at_call 9; refine (refParse_calls s _).mono ?_; rintro e w4 ⟨d, d1, rfl, hQ, hB4⟩; obtain ⟨rfl, rfl⟩ := hP.one hQ; have b4 := b3.trans (hB4.mono b3.size); have a4 := (hB4.block _ (lt_of_block a3)).trans a3; have e4 := (hB4.block _ (lt_of_block e3)).trans e3; have k4 := (hB4.block _ (lt_of_block k3)).trans k3; clear b3 a3 e3 k3 hB4 hQ)
      | (apply wpList_store_mid (ty := 24) (x := .tmp 9) (y := .tmp 23) (o := 0) (cells := (cells8 c).toArray); (case ho => exact rfl); (case hgd => exact rfl); (case hx => exact rfl); (case hy => exact digV_agg _); (case ht => exact there_32 (alloc_new _ _ _ rfl) rfl c hc1); (case hi => exact digV_size _ hc1); (case h1 => exact all_oneCell_toArray (cells8_one _)); obtain ⟨hBx, hdx⟩ := new_digest w4 c hc1; show wpList _ _ _ _ _ ((w4.alloc (.cells zero32 24 (0, 0))).setCells w4.heap.size 0 (cells8 c)); generalize (w4.alloc (.cells zero32 24 (0, 0))).setCells w4.heap.size 0 (cells8 c) = W at hBx hdx ⊢; have I : TeI w a b c C w4.heap.size c W := ⟨b4.trans (hBx.mono b4.size), (hBx.block _ (lt_of_block a4)).trans a4, (hBx.block _ (lt_of_block e4)).trans e4, (hBx.block _ (lt_of_block k4)).trans k4, hdx⟩; generalize w4.heap.size = D at I ⊢; clear b4 a4 e4 k4 hBx hdx))
    clear hP
    have hcc := eql_same c hc1 hc2
    refine wp_region_quiet_below (by kernel_rfl) (by kernel_rfl) ?_
    refine wpQuiet_load_rowG (by kernel_rfl) 24 (.tmp 3) rfl (w.heap.size) rfl 24 (cells8 a).toArray (0, 0) (.array 32 5) (by rintro _ ⟨k, rfl⟩; exact (I.keepB (below_regrown W k.d k.os)).a) und24 rfl (digV_size _ ha) (v := digV a) (digV_agg _) ?_
    quiet_step ((go_at_call 8; exact Calls.regrown_of (HTa.out _)))
    refine wpQuiet_load_rowG (by kernel_rfl) 24 (.tmp 3) rfl (w.heap.size) rfl 24 (cells8 a).toArray (0, 0) (.array 32 5) (by rintro _ ⟨k, rfl⟩; exact (I.keepB (below_regrown W k.d k.os)).a) und24 rfl (digV_size _ ha) (v := digV a) (digV_agg _) ?_
    quiet_step ((go_at_call 10; exact Calls.regrown_of (HRa.out _)))
    quiet_step (fail)
    quiet_step (fail)
    refine wpQuiet_load_rowG (by kernel_rfl) 24 (.tmp 3) rfl (w.heap.size) rfl 24 (cells8 a).toArray (0, 0) (.array 32 5) (by rintro _ ⟨k, rfl⟩; exact (I.keepB (below_regrown W k.d k.os)).a) und24 rfl (digV_size _ ha) (v := digV a) (digV_agg _) ?_
    quiet_step ((go_at_call 11; exact Calls.regrown_of (HSa.out _)))
    refine wpQuiet_load_rowG (by kernel_rfl) 24 (.tmp 3) rfl (w.heap.size) rfl 24 (cells8 a).toArray (0, 0) (.array 32 5) (by rintro _ ⟨k, rfl⟩; exact (I.keepB (below_regrown W k.d k.os)).a) und24 rfl (digV_size _ ha) (v := digV a) (digV_agg _) ?_
    quiet_step ((go_at_call 12; exact Calls.regrown_of (HUa.out _)))
    quiet_step (fail)
    quiet_step (fail)
    quiet_step (fail)
    refine wpQuiet_load_rowG (by kernel_rfl) 24 (.tmp 3) rfl (w.heap.size) rfl 24 (cells8 a).toArray (0, 0) (.array 32 5) (by rintro _ ⟨k, rfl⟩; exact (I.keepB (below_regrown W k.d k.os)).a) und24 rfl (digV_size _ ha) (v := digV a) (digV_agg _) ?_
    refine wpQuiet_load_rowG (by kernel_rfl) 24 (.tmp 4) rfl (w.heap.size + 1) rfl 24 (cells8 b).toArray (0, 0) (.array 32 5) (by rintro _ ⟨k, rfl⟩; exact (I.keepB (below_regrown W k.d k.os)).b) und24 rfl (digV_size _ hb) (v := digV b) (digV_agg _) ?_
    quiet_step ((go_at_call 13; exact Calls.regrown_of (HLab.out _)))
    refine wpQuiet_load_rowG (by kernel_rfl) 24 (.tmp 3) rfl (w.heap.size) rfl 24 (cells8 a).toArray (0, 0) (.array 32 5) (by rintro _ ⟨k, rfl⟩; exact (I.keepB (below_regrown W k.d k.os)).a) und24 rfl (digV_size _ ha) (v := digV a) (digV_agg _) ?_
    refine wpQuiet_load_rowG (by kernel_rfl) 24 (.tmp 4) rfl (w.heap.size + 1) rfl 24 (cells8 b).toArray (0, 0) (.array 32 5) (by rintro _ ⟨k, rfl⟩; exact (I.keepB (below_regrown W k.d k.os)).b) und24 rfl (digV_size _ hb) (v := digV b) (digV_agg _) ?_
    quiet_step ((go_at_call 14; exact Calls.regrown_of (HMab.out _)))
    quiet_step (fail)
    quiet_step (fail)
    quiet_step (fail)
    refine wpQuiet_load_rowG (by kernel_rfl) 24 (.tmp 3) rfl (w.heap.size) rfl 24 (cells8 a).toArray (0, 0) (.array 32 5) (by rintro _ ⟨k, rfl⟩; exact (I.keepB (below_regrown W k.d k.os)).a) und24 rfl (digV_size _ ha) (v := digV a) (digV_agg _) ?_
    refine wpQuiet_load_rowG (by kernel_rfl) 24 (.tmp 3) rfl (w.heap.size) rfl 24 (cells8 a).toArray (0, 0) (.array 32 5) (by rintro _ ⟨k, rfl⟩; exact (I.keepB (below_regrown W k.d k.os)).a) und24 rfl (digV_size _ ha) (v := digV a) (digV_agg _) ?_
    quiet_step ((go_at_call 13; exact Calls.regrown_of (HLaa.out _)))
    refine wpQuiet_load_rowG (by kernel_rfl) 24 (.tmp 3) rfl (w.heap.size) rfl 24 (cells8 a).toArray (0, 0) (.array 32 5) (by rintro _ ⟨k, rfl⟩; exact (I.keepB (below_regrown W k.d k.os)).a) und24 rfl (digV_size _ ha) (v := digV a) (digV_agg _) ?_
    refine wpQuiet_load_rowG (by kernel_rfl) 24 (.tmp 3) rfl (w.heap.size) rfl 24 (cells8 a).toArray (0, 0) (.array 32 5) (by rintro _ ⟨k, rfl⟩; exact (I.keepB (below_regrown W k.d k.os)).a) und24 rfl (digV_size _ ha) (v := digV a) (digV_agg _) ?_
    quiet_step ((go_at_call 14; exact Calls.regrown_of (HMaa.out _)))
    quiet_step (fail)
    quiet_step (fail)
    quiet_step (fail)
    refine wpQuiet_load_rowG (by kernel_rfl) 24 (.tmp 7) rfl (C) rfl 24 (cells8 c).toArray (0, 0) (.array 32 5) (by rintro _ ⟨k, rfl⟩; exact (I.keepB (below_regrown W k.d k.os)).c) und24 rfl (digV_size _ hc1) (v := digV c) (digV_agg _) ?_
    refine wpQuiet_load_rowG (by kernel_rfl) 24 (.tmp 9) rfl (D) rfl 24 (cells8 c).toArray (0, 0) (.array 32 5) (by rintro _ ⟨k, rfl⟩; exact (I.keepB (below_regrown W k.d k.os)).d) und24 rfl (digV_size _ hc1) (v := digV c) (digV_agg _) ?_
    quiet_step (fail)
    quiet_step (fail)
    quiet_step (fail)
    quiet_step (fail)
    quiet_step (fail)
    quiet_step (fail)
    quiet_step (fail)
    quiet_step (fail)
    quiet_step ((go_at_call 6; exact Calls.regrown_of (HN.out _)))
    quiet_step (fail)
    quiet_step (fail)
    refine wpQuiet_nil ?_
    intro w9 hw'
    obtain ⟨pq, hw''⟩ := hw'
    have I9 := I.keepB (below_regrown W pq.d pq.os)
    rw [← hw''] at I9
    clear hw''
    go_wp2
    go_ret
    exact ⟨rfl, I9.below⟩
end Go.Proofs.Ytegjphfkkafomaa.Dg
