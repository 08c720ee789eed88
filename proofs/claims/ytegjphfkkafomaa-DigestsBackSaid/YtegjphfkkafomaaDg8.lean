/- Short and Less, both: the walks. -/
import Derived.Test.YtegjphfkkafomaaDg7
namespace Go.Proofs.Ytegjphfkkafomaa.Dg
open Go.RowKit Go.Proofs Go.Proofs.YtegjphfkkafomaaW.PrintWords Go.Proofs.YtegjphfkkafomaaW.PrintLast Go.Proofs.YtegjphfkkafomaaW.PrintMore

def shortS (l : List Nat) : ByteArray := (textS l).extract 7 19
theorem short_eq (l : List Nat) : (⟨(hexL l).toArray⟩ : ByteArray).extract 0 12 = shortS l := by
  unfold shortS textS
  have h7 : preS.size = 7 := rfl
  apply ByteArray.ext
  simp [h7]
theorem slice_str (s : ByteArray) (p : Nat) (h : p ≤ s.size) (w : World) : (Instr.slice 9 (.string s) none (some (.int .i64 (p : Int))) none).run Try.prog w = .ok (.string (s.extract 0 p)) w := by
  have c1 : (p : Int) ≤ (s.size : Int) := by omega
  go_simp
theorem slice_both (s : ByteArray) (o p : Nat) (h0 : o ≤ p) (h : p ≤ s.size) (w : World) : (Instr.slice 9 (.string s) (some (.int .i64 (o : Int))) (some (.int .i64 (p : Int))) none).run Try.prog w = .ok (.string (s.extract o p)) w := by
  have c1 : (p : Int) ≤ (s.size : Int) := by omega
  have c2 : (o : Int) ≤ (p : Int) := by omega
  go_simp
def bsN (l : List Nat) : List UInt8 := l.map UInt8.ofNat
theorem bsN_conv (w : World) (g : Nat) (l : List Nat) (hl : l.length = 32) (hb : ∀ x ∈ l, x < 256) (h : w.heap[g]? = some (.cells (cells8 l).toArray 24 (0, 0))) (c : Nat) :
    (convert 33 9 (.slice (some ⟨g, 0, none⟩) 32 c)).run Try.prog w = .ok (.string ⟨(bsN l).toArray⟩) w := by
  have hz : (bsN l).length = 32 := by unfold bsN; rw [List.length_map, hl]
  have := run_convert_bytes_back (P := Try.prog) w 33 9 5 ⟨g, 0, none⟩ c (bsN l) Try.underlying33 Try.underlying5 Try.underlying9 (fun j hj => by
    rw [add_zero, block_cell h, List.getElem?_toArray, cells8_get l j (by omega)]
    have hj' : j < l.length := by omega
    have hlt := hb _ (List.getElem_mem hj')
    have e : (((bsN l)[j]'hj).toNat : Int) = ((fB l j : Nat) : Int) := by
      have e1 : (bsN l)[j]'hj = UInt8.ofNat (l[j]'hj') := List.getElem_map _
      have e2 : fB l j = l[j]'hj' := by
        unfold fB
        rw [List.getD_eq_getElem?_getD, List.getElem?_eq_getElem hj']
        rfl
      rw [e1, e2, UInt8.toNat_ofNat_of_lt' hlt]
    rw [e])
  rw [hz] at this
  exact this
def lessB (l m : List Nat) : Bool := decide (Lib.compareBytes (bsN l) (bsN m) < 0)
attribute [local irreducible] digV Go.wpQuiet
set_option maxHeartbeats 1000000 in
set_option maxRecDepth 100000 in
theorem short_calls (w : World) (l : List Nat) (hl : l.length = 32) (hb : ∀ x ∈ l, x < 256) :
    Calls Try.prog 11 #[digV l] w fun e w' => e = .returned (.string (shortS l)) ∧ Below w.heap.size w w' := by
  have hB0 : Below w.heap.size w (w.alloc (.cells (cells8 l).toArray 24 (0, 0))) := (Below.refl _ _).alloc (Nat.le_refl _) _
  have hsl := slice_str ⟨(hexL l).toArray⟩ 12 (by show 12 ≤ (hexL l).toArray.size; rw [List.size_toArray, hexL_length]; omega)
  rw [short_eq] at hsl
  have hsl' : ∀ w, (Instr.slice 9 (.string ⟨(hexL l).toArray⟩) none (some (.int .i64 12)) none).run Try.prog w = .ok (.string (shortS l)) w := hsl
  have HD := Lib.hid (show ∀ w, Calls Try.prog 17 #[.agg (cells8 l).toArray] w fun e w' => e = .returned (.string ⟨(hexL l).toArray⟩) ∧ Below w.heap.size w w' from fun w => by rw [← digV_agg]; exact digits_calls w l hl hb)
  clear hsl
  rw [digV_agg]
  generalize (⟨(hexL l).toArray⟩ : ByteArray) = t at *
  go_enter Try.func11, Try.ntmps11
  go_wp2_with (first
    | (refine wpList_load_row rfl 24 (.tmp 1) rfl w.heap.size rfl 24 (cells8 l).toArray (0, 0) (.array 32 5) (alloc_new w _ _ rfl) und24 rfl (digV_size _ hl) ?_)
    | (go_at_call 17; refine (HD.out _).mono ?_; rintro e w2 ⟨rfl, hB2⟩))
  go_ret
  exact ⟨rfl, hB0.trans (hB2.mono hB0.size)⟩
set_option maxHeartbeats 1000000 in
set_option maxRecDepth 100000 in
theorem refShort_calls (w : World) (l : List Nat) (hl : l.length = 32) (hb : ∀ x ∈ l, x < 256) :
    Calls Try.prog 12 #[digV l] w fun e w' => e = .returned (.string (shortS l)) ∧ Below w.heap.size w w' := by
  have hB0 : Below w.heap.size w (w.alloc (.cells (cells8 l).toArray 24 (0, 0))) := (Below.refl _ _).alloc (Nat.le_refl _) _
  have hsl := slice_both (textS l) 7 19 (by omega) (by rw [textS_size]; omega)
  have hsl' : ∀ w, (Instr.slice 9 (.string (textS l)) (some (.int .i64 7)) (some (.int .i64 19)) none).run Try.prog w = .ok (.string (shortS l)) w := hsl
  have HD := Lib.hid (show ∀ w, Calls Try.prog 10 #[.agg (cells8 l).toArray] w fun e w' => e = .returned (.string (textS l)) ∧ Below w.heap.size w w' from fun w => by rw [← digV_agg]; exact refText_calls w l hl hb)
  clear hsl
  rw [digV_agg]
  generalize textS l = t at *
  go_enter Try.func12, Try.ntmps12
  go_wp2_with (first
    | (refine wpList_load_row rfl 24 (.tmp 1) rfl w.heap.size rfl 24 (cells8 l).toArray (0, 0) (.array 32 5) (alloc_new w _ _ rfl) und24 rfl (digV_size _ hl) ?_)
    | (go_at_call 10; refine (HD.out _).mono ?_; rintro e w2 ⟨rfl, hB2⟩))
  go_ret
  exact ⟨rfl, hB0.trans (hB2.mono hB0.size)⟩
set_option maxHeartbeats 1000000 in
set_option maxRecDepth 100000 in
theorem less_calls (w : World) (l m : List Nat) (hl : l.length = 32) (hb : ∀ x ∈ l, x < 256) (hm : m.length = 32) (hbm : ∀ x ∈ m, x < 256) :
    Calls Try.prog 13 #[digV l, digV m] w fun e w' => e = .returned (.bool (lessB l m)) ∧ Below w.heap.size w w' := by
  have hB0 := Lib.hid (show Below w.heap.size w ((w.alloc (.cells (cells8 l).toArray 24 (0, 0))).alloc (.cells (cells8 m).toArray 24 (0, 0))) from ((Below.refl _ _).alloc (Nat.le_refl _) _).alloc (by simp) _)
  have h0 := two_new w (.cells (cells8 l).toArray 24 (0, 0)) (.cells (cells8 m).toArray 24 (0, 0))
  have h1 : ((w.alloc (.cells (cells8 l).toArray 24 (0, 0))).alloc (.cells (cells8 m).toArray 24 (0, 0))).heap[w.heap.size + 1]? = _ := alloc_new _ _ _ (by simp)
  have HC := Lib.hid (fun w => compare_calls ⟨(bsN l).toArray⟩ ⟨(bsN m).toArray⟩ w)
  have HR : Hid (lessB l m = decide (Lib.compareBytes (bsN l) (bsN m) < 0)) := Lib.hid rfl
  rw [digV_agg, digV_agg]
  go_enter Try.func13, Try.ntmps13
  go_wp2
  obtain ⟨W, hW⟩ : ∃ W, W = (w.alloc (.cells (cells8 l).toArray 24 (0, 0))).alloc (.cells (cells8 m).toArray 24 (0, 0)) := ⟨_, rfl⟩
  rw [← hW] at h0 h1 hB0 ⊢
  clear hW
  have cA : ∀ k c, (convert 33 9 (.slice (some ⟨w.heap.size, 0, none⟩) 32 c)).run Try.prog (W.drewN k) = .ok (.string ⟨(bsN l).toArray⟩) (W.drewN k) := fun k c => bsN_conv (W.drewN k) _ l hl hb h0 c
  have cB : ∀ k c, (convert 33 9 (.slice (some ⟨w.heap.size + 1, 0, none⟩) 32 c)).run Try.prog (W.drewN k) = .ok (.string ⟨(bsN m).toArray⟩) (W.drewN k) := fun k c => bsN_conv (W.drewN k) _ m hm hbm h1 c
  refine wp_region_quiet_lit (by kernel_rfl) (by kernel_rfl) ?_
  quiet_step (fail)
  quiet_step (fail)
  quiet_step (fail)
  quiet_step (fail)
  quiet_step ((go_at_call 20; exact Calls.quiet_of_same (HC.out _)))
  quiet_step (fail)
  quiet_step (fail)
  refine wpQuiet_nil ?_
  intro _ hw'
  obtain ⟨nq, hw''⟩ := hw'
  subst hw''
  go_wp2
  go_ret
  exact ⟨by rw [HR.out]; rfl, hB0.out.trans ((pw_below_drewN (Below.refl _ _) nq).mono hB0.out.size)⟩

/-- Two lists that are the same so far. -/
theorem cmp_step : ∀ (i : Nat) (l m : List UInt8), (∀ j, j < i → l[j]? = m[j]?) → i < l.length → i < m.length → Lib.compareBytes l m = Lib.compareBytes (l.drop i) (m.drop i)
  | 0, _, _, _, _, _ => rfl
  | i + 1, a :: l, b :: m, h, h1, h2 => by
    have e : a = b := by simpa using h 0 (by omega)
    subst e
    have := cmp_step i l m (fun j hj => by simpa using h (j + 1) (by omega)) (by simpa using h1) (by simpa using h2)
    show Lib.compareBytes (a :: l) (a :: m) = Lib.compareBytes (l.drop i) (m.drop i)
    rw [← this]
    simp [Lib.compareBytes]
  | _ + 1, [], _, _, h1, _ => by simp at h1
  | _ + 1, _ :: _, [], _, _, h2 => by simp at h2
theorem cmp_self : ∀ l : List UInt8, Lib.compareBytes l l = 0
  | [] => rfl
  | a :: l => by
    have := cmp_self l
    simp [Lib.compareBytes, this]
theorem bsN_get (l : List Nat) (j : Nat) : (bsN l)[j]? = (l[j]?).map UInt8.ofNat := by unfold bsN; rw [List.getElem?_map]
theorem less_self (l : List Nat) : lessB l l = false := by
  unfold lessB
  rw [cmp_self]
  rfl
theorem less_at (l m : List Nat) (hl : l.length = 32) (hb : ∀ x ∈ l, x < 256) (hm : m.length = 32) (hbm : ∀ x ∈ m, x < 256) (i : Nat) (hi : i < 32) (h : ∀ j, j < i → fB l j = fB m j) (hne : fB l i ≠ fB m i) :
    lessB l m = decide (fB l i < fB m i) := by
  have hg : ∀ (l : List Nat), l.length = 32 → ∀ j, j < 32 → l[j]? = some (fB l j) := fun l hl j hj => by
    unfold fB
    rw [List.getD_eq_getElem?_getD, List.getElem?_eq_getElem (by omega)]
    rfl
  have hz : ∀ (l : List Nat), l.length = 32 → (bsN l).length = 32 := fun l hl => by unfold bsN; rw [List.length_map, hl]
  have h1 := cmp_step i (bsN l) (bsN m) (fun j hj => by rw [bsN_get, bsN_get, hg l hl j (by omega), hg m hm j (by omega), h j hj]) (by rw [hz l hl]; exact hi) (by rw [hz m hm]; exact hi)
  have hd : ∀ (l : List Nat) (hl : l.length = 32), (bsN l).drop i = UInt8.ofNat (fB l i) :: (bsN l).drop (i + 1) := fun l hl => by
    rw [List.drop_eq_getElem_cons (by rw [hz l hl]; exact hi)]
    congr 1
    have e := bsN_get l i
    rw [hg l hl i hi, List.getElem?_eq_getElem (by rw [hz l hl]; exact hi)] at e
    exact Option.some.inj e
  rw [hd l hl, hd m hm] at h1
  have bl := fB_lt l hb i
  have bm := fB_lt m hbm i
  have lt1 : ∀ a b : Nat, a < 256 → b < 256 → (UInt8.ofNat a < UInt8.ofNat b ↔ a < b) := fun a b ha hb => by
    rw [UInt8.lt_iff_toNat_lt, UInt8.toNat_ofNat_of_lt' ha, UInt8.toNat_ofNat_of_lt' hb]
  unfold lessB
  rw [h1]
  unfold Lib.compareBytes
  by_cases hlt : fB l i < fB m i
  · rw [if_pos ((lt1 _ _ bl bm).2 hlt), decide_eq_true hlt]
    rfl
  · rw [if_neg (fun e => hlt ((lt1 _ _ bl bm).1 e)), if_pos ((lt1 _ _ bm bl).2 (by omega)), decide_eq_false hlt]
    rfl
set_option maxHeartbeats 2000000 in
set_option maxRecDepth 100000 in
theorem refLess_calls (w : World) (l m : List Nat) (hl : l.length = 32) (hb : ∀ x ∈ l, x < 256) (hm : m.length = 32) (hbm : ∀ x ∈ m, x < 256) :
    Calls Try.prog 14 #[digV l, digV m] w fun e w' => e = .returned (.bool (lessB l m)) ∧ Below w.heap.size w w' := by
  have hB0 : Below w.heap.size w ((w.alloc (.cells (cells8 l).toArray 24 (0, 0))).alloc (.cells (cells8 m).toArray 24 (0, 0))) := ((Below.refl _ _).alloc (Nat.le_refl _) _).alloc (by simp) _
  have h0 := two_new w (.cells (cells8 l).toArray 24 (0, 0)) (.cells (cells8 m).toArray 24 (0, 0))
  have h1 : ((w.alloc (.cells (cells8 l).toArray 24 (0, 0))).alloc (.cells (cells8 m).toArray 24 (0, 0))).heap[w.heap.size + 1]? = some (.cells (cells8 m).toArray 24 (0, 0)) := alloc_new _ _ _ (by simp)
  have HA := Lib.hid (fun i hi h hne => less_at l m hl hb hm hbm i hi h hne)
  have HS := Lib.hid (show (∀ j, j < 32 → fB l j = fB m j) → lessB l m = false from fun h => by
    have e : l = m := by
      apply List.ext_getElem?
      intro j
      by_cases hj : j < 32
      · have := h j hj
        unfold fB at this
        rw [List.getD_eq_getElem?_getD, List.getD_eq_getElem?_getD, List.getElem?_eq_getElem (by omega), List.getElem?_eq_getElem (by omega)] at this
        rw [List.getElem?_eq_getElem (by omega), List.getElem?_eq_getElem (by omega)]
        exact congrArg some this
      · rw [List.getElem?_eq_none (by omega), List.getElem?_eq_none (by omega)]
    rw [e]
    exact less_self m)
  rw [digV_agg, digV_agg]
  go_enter Try.func14, Try.ntmps14
  go_wp2
  go_loopg [5] 32 (fun k v5 wr => ∃ i : Nat, i ≤ 32 ∧ v5 = .int .i64 i ∧ (∀ j, j < i → fB l j = fB m j) ∧ (Below w.heap.size w wr ∧ wr.heap[w.heap.size]? = some (.cells (cells8 l).toArray 24 (0, 0)) ∧ wr.heap[w.heap.size + 1]? = some (.cells (cells8 m).toArray 24 (0, 0))) ∧ k = 32 - i)
  case atStart => exact ⟨0, by omega, rfl, (fun j hj => by omega), ⟨hB0, h0, h1⟩, rfl⟩
  case round =>
    clear hB0 h0 h1
    obtain ⟨i, hi, rfl, hall, ⟨hB, h0, h1⟩, rfl⟩ := hrel
    have HL := Lib.hid hall
    clear hall
    by_cases hlt : i < 32
    · have c1 : (i : Int) < 32 := by omega
      have c2 : (0 : Int) ≤ (i : Int) := by omega
      have c3 : ((i : Int)).toNat = i := by omega
      have ca : wr.cell? ⟨w.heap.size, i, none⟩ = some (.int .u8 ((fB l i : Nat) : Int)) := by
        rw [block_cell h0, List.getElem?_toArray]
        exact cells8_get l i (by omega)
      have cb : wr.cell? ⟨w.heap.size + 1, i, none⟩ = some (.int .u8 ((fB m i : Nat) : Int)) := by
        rw [block_cell h1, List.getElem?_toArray]
        exact cells8_get m i (by omega)
      by_cases e : fB l i = fB m i
      · have HL2 := Lib.hid (show ∀ j, j < i + 1 → fB l j = fB m j from fun j hj => by
          by_cases e2 : j = i
          · rw [e2]; exact e
          · exact HL.out j (by omega))
        rw [← e] at cb
        clear e
        generalize fB l i = x at *
        go_wp2
        go_quiet (fail)
        go_wp2
        go_roundg (32 - (i + 1))
        case measure => omega
        case rel => exact ⟨i + 1, by omega, by simp, HL2.out, ⟨hB.trans ((pw_below_drewN (Below.refl _ _) nq).mono hB.size), h0, h1⟩, rfl⟩
      · have HE := Lib.hid (HA.out i hlt HL.out e)
        have q1 : ¬ ((fB l i : Nat) : Int) = ((fB m i : Nat) : Int) := by omega
        have q2 : (((fB l i : Nat) : Int) == ((fB m i : Nat) : Int)) = false := beq_eq_false_iff_ne.mpr q1
        have q3 : (((fB l i : Nat) : Int) != ((fB m i : Nat) : Int)) = true := bne_iff_ne.mpr q1
        clear e
        generalize fB l i = x at *
        generalize fB m i = y at *
        go_wp2
        go_quiet (fail)
        go_wp2
        obtain ⟨w9, hw9⟩ : ∃ w9, w9 = wr.drewN nq := ⟨_, rfl⟩
        have ca' : w9.cell? ⟨w.heap.size, i, none⟩ = some (.int .u8 (x : Int)) := by rw [hw9]; exact ca
        have cb' : w9.cell? ⟨w.heap.size + 1, i, none⟩ = some (.int .u8 (y : Int)) := by rw [hw9]; exact cb
        have hB9 : Below w.heap.size w w9 := by rw [hw9]; exact hB.trans ((pw_below_drewN (Below.refl _ _) nq).mono hB.size)
        rw [← hw9]
        clear hw9 ca cb hB h0 h1
        go_quiet (fail)
        go_wp2
        go_ret
        exact ⟨by rw [HE.out]; simp, hB9.trans ((pw_below_drewN (Below.refl _ _) _).mono hB9.size)⟩
    · have e32 : i = 32 := by omega
      subst e32
      have HE := Lib.hid (HS.out HL.out)
      go_wp2
      go_ret
      exact ⟨by rw [HE.out]; rfl, hB⟩
end Go.Proofs.Ytegjphfkkafomaa.Dg
