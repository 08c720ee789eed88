/- Loose writes settled. -/
import Derived.Test.YteblobookpldfaaSeG
import Derived.WalkSmall
namespace Go.Proofs.Yteblobookpldfaa.Se
open Go.RowKit Go.Shelf Go.Proofs

/-- The sectors behind the first i loose writes, of those that K lets stay. -/
def setN (K : Nat → Bool) (L : List (Nat × ByteArray)) (s : List ByteArray) : Nat → List ByteArray
  | 0 => s
  | i + 1 => match L[i]? with
    | some x => if K i = true then (setN K L s i).set x.1 x.2 else setN K L s i
    | none => setN K L s i
theorem setN_length (K : Nat → Bool) (L : List (Nat × ByteArray)) (s : List ByteArray) : ∀ i, (setN K L s i).length = s.length
  | 0 => rfl
  | i + 1 => by
    unfold setN
    split
    · split
      · rw [List.length_set, setN_length K L s i]
      · exact setN_length K L s i
    · exact setN_length K L s i
theorem setN_yes {K : Nat → Bool} {L : List (Nat × ByteArray)} {s : List ByteArray} {i : Nat} {x : Nat × ByteArray} (h : L[i]? = some x) (hk : K i = true) : setN K L s (i + 1) = (setN K L s i).set x.1 x.2 := by
  rw [setN]
  simp only [h, if_pos hk]
theorem setN_no {K : Nat → Bool} {L : List (Nat × ByteArray)} {s : List ByteArray} {i : Nat} (hk : K i = false) : setN K L s (i + 1) = setN K L s i := by
  rw [setN]
  split
  · rw [hk]; rfl
  · rfl
/-- Each loose write is to a sector there is. -/
def Inside (d : Dk) : Prop := ∀ x ∈ d.loose, x.1 < d.sure.length
def settleD (K : Nat → Bool) (d : Dk) : Dk := { d with sure := setN K d.loose d.sure d.loose.length, loose := [] }
/-- Only the sectors' own block. -/
def SB (sv : Value) : Nat → Prop := fun b => sv.ownBlock = some b
theorem DAt.loosed {W : World} {F : Nat → Prop} {p : Nat} {sv lv kv : Value} {d : Dk} (h : DAt W F p sv lv kv d) : DAt (W.setCell ⟨p, 1, none⟩ (.slice none 0 0)) F p sv (.slice none 0 0) kv { d with loose := [] } := by
  obtain ⟨h1, h2⟩ := h.head 1 (.slice none 0 0)
  refine ⟨h.fp, h.fs, fun k hk => (by cases hk), h.fk, h2, ?_, World.ownsRow_nil _ _ _ _, ?_⟩
  · exact ownsRow_block h.su fun k hk => h1 k fun e => h.ns (by rw [hk, e])
  · exact ownsRow_block h.ke fun k hk => h1 k fun e => h.nk (by rw [hk, e])
attribute [local irreducible] Go.wpQuiet in
set_option maxHeartbeats 4000000 in
set_option maxRecDepth 100000 in
theorem settle_all {w : World} {F : Nat → Prop} {p : Nat} {sv lv kv : Value} {d : Dk} (h : DAt w F p sv lv kv d) (hin : Inside d) : Calls Try.prog 35 #[.pointer (some ⟨p, 0, none⟩), .func (.func 36) #[] #[]] w fun e w' =>
    e = .returned (.tuple #[]) ∧ DAt w' F p sv (.slice none 0 0) kv (settleD (fun _ => true) d) ∧ OnlyF F w w' := by
  obtain ⟨ol, cl, rfl⟩ := ownsRow_form h.lo
  obtain ⟨os, cs, rfl⟩ := ownsRow_form h.su
  have hlen : d.loose.length ≤ 9223372036854775807 := by
    rcases h.lo.2 with ⟨_, h3⟩ | ⟨g', cap, cur, e, _, _, h4, h5, _⟩
    · omega
    · unfold maxLen at h5
      omega
  obtain ⟨K, hK⟩ : ∃ K : Nat → Bool, K = (fun _ => true) := ⟨_, rfl⟩
  rw [← hK]
  have HK := Lib.hid hK
  have HH := Lib.hid h
  have c1 := h.c1
  have HL := Lib.hid hlen
  clear h hlen hK
  go_enter Try.func35, Try.ntmps35
  go_wp2
  go_loopg [11] d.loose.length (fun k v11 wr => ∃ i : Nat, v11 = .int .i64 (i : Int) ∧ i ≤ d.loose.length ∧ DAt wr F p (.slice os d.sure.length cs) (.slice ol d.loose.length cl) kv { d with sure := setN K d.loose d.sure i } ∧ OnlyF (SB (.slice os d.sure.length cs)) w wr ∧ k = d.loose.length - i)
  case atStart => exact ⟨0, rfl, by omega, HH.out, OnlyF.refl _ _, rfl⟩
  case round =>
    obtain ⟨i, rfl, hi, hD, hO, rfl⟩ := hrel
    by_cases hil : i < d.loose.length
    · obtain ⟨x, hx⟩ : ∃ x, d.loose[i]? = some x := ⟨_, List.getElem?_eq_getElem hil⟩
      have hxin : x.1 < d.sure.length := hin x (List.mem_of_getElem? hx)
      obtain ⟨gl, rfl⟩ := ownsRow_at HH.out.lo (by omega)
      obtain ⟨gs, rfl⟩ := ownsRow_at HH.out.su (by omega)
      have l0 : wr.cell? ((⟨gl, 0, none⟩ : Addr).add (i * 2)) = some (.int .i64 (x.1 : Int)) := by
        rw [add_zero, hD.lo.cellAt (i * 2) (by show i * 2 < d.loose.length * 2; omega)]
        exact (looseV_get _ _ _ hx).1
      have l1 : wr.cell? ⟨((⟨gl, 0, none⟩ : Addr).add (i * 2)).block, ((⟨gl, 0, none⟩ : Addr).add (i * 2)).off + 1, none⟩ = some (.string x.2) := by
        rw [add_zero, hD.lo.cellAt (i * 2 + 1) (by show i * 2 + 1 < d.loose.length * 2; omega)]
        exact (looseV_get _ _ _ hx).2
      obtain ⟨al, hal⟩ : ∃ al, al = (⟨gl, 0, none⟩ : Addr) := ⟨_, rfl⟩
      rw [← hal] at l0 l1
      have q1 : (i : Int) < (d.loose.length : Int) := by omega
      have q3 : ((i : Int)).toNat = i := by omega
      have q4 : (0 : Int) ≤ (i : Int) := by omega
      have HD := Lib.hid hD
      have HO := Lib.hid hO
      have HX := Lib.hid hx
      have HI := Lib.hid hxin
      have HAL := Lib.hid hal
      rw [← hal]
      clear hD hO hx hxin hal
      go_upto_if 18 with (go_at_call 36; refine (all_calls _ _).mono ?_; rintro e w' ⟨rfl, rfl⟩)
      have hD := HD.out
      have D2 := hD.keepB ((Below.refl wr.heap.size wr).alloc (Nat.le_refl _) (.cells #[.int .i64 (x.1 : Int), .string x.2] 66))
      have b0 : (wr.alloc (.cells #[.int .i64 (x.1 : Int), .string x.2] 66)).cell? ⟨wr.heap.size, 0, none⟩ = some (.int .i64 (x.1 : Int)) := by rw [block_cell (alloc_new _ _ _ rfl)]; rfl
      have b1 : (wr.alloc (.cells #[.int .i64 (x.1 : Int), .string x.2] 66)).cell? ⟨wr.heap.size, 1, none⟩ = some (.string x.2) := by rw [block_cell (alloc_new _ _ _ rfl)]; rfl
      have O2 := HO.out.alloc (.cells #[.int .i64 (x.1 : Int), .string x.2] 66)
      clear l0 l1
      generalize wr.alloc (.cells #[.int .i64 (x.1 : Int), .string x.2] 66) = wa at *
      generalize wr.heap.size = nb at b0 b1 ⊢
      have su : wa.ownsRow 0 9 1 (.slice (some ⟨gs, 0, none⟩) d.sure.length cs) d.sure.length ((setN K d.loose d.sure i).map Value.string) := by
        have := D2.su
        rw [show ({ d with sure := setN K d.loose d.sure i } : Dk).sure.length = d.sure.length from setN_length _ _ _ _] at this
        exact this
      obtain ⟨old, hold⟩ : ∃ old, (setN K d.loose d.sure i)[x.1]? = some old := ⟨_, List.getElem?_eq_getElem (by rw [setN_length]; exact HI.out)⟩
      have s0 : wa.cell? ((⟨gs, 0, none⟩ : Addr).add x.1) = some (.string old) := by
        rw [add_zero, su.cellAt x.1 (by have := HI.out; omega), List.getElem?_map, hold]
        rfl
      have sf : wa.frozen? ((⟨gs, 0, none⟩ : Addr).add x.1) = false := by
        rw [add_zero]
        exact su.frozenAt x.1
      have c0 := D2.c0
      have hxi := HI.out
      have q5 : ((x.1 : Nat) : Int) < (d.sure.length : Int) := by omega
      have q6 : ((x.1 : Nat) : Int).toNat = x.1 := by omega
      have q7 : (0 : Int) ≤ ((x.1 : Nat) : Int) := by omega
      have HD3 := Lib.hid (D2.putSure (setN_length _ _ _ _).symm x.1 x.2)
      have HO3 := Lib.hid (O2.set (F := SB (.slice (some ⟨gs, 0, none⟩) d.sure.length cs)) (p := gs) rfl x.1 (.string x.2))
      have HD2 := Lib.hid D2
      have HO2 := Lib.hid O2
      rw [← add_zero] at HD3 HO3
      obtain ⟨ag, hag⟩ : ∃ ag, ag = (⟨gs, 0, none⟩ : Addr) := ⟨_, rfl⟩
      rw [← hag] at c0 s0 sf
      have HAG := Lib.hid hag
      have hl := HL.out
      clear hD D2 O2 su hold hag c1
      go_upto_region 4 with fail
      refine QT.wp_region_draws_tail 9 (by kernel_rfl) (by kernel_rfl) ?_
      simp only [List.take_succ_cons, List.take_zero, List.drop_succ_cons, List.drop_zero]
      repeat (quiet_step (fail))
      refine wpQuiet_nil ?_
      intro w3 hw3
      obtain ⟨pq, hw3'⟩ := hw3
      subst hw3'
      go_wp2
      rw [HAL.out]
      go_roundg (d.loose.length - (i + 1))
      case measure => omega
      case rel =>
        have e : (wa.drewN pq).setCell (ag.add x.1) (.string x.2) = (wa.setCell (ag.add x.1) (.string x.2)).drewN pq := rfl
        rw [e, HAG.out]
        refine ⟨i + 1, by simp, by omega, ?_, ?_, rfl⟩
        · rw [setN_yes HX.out (by rw [HK.out])]
          exact HD3.out.keepB (below_drewN (Below.refl _ _) _)
        · rw [add_zero]
          exact HO3.out.trans (OnlyF.of (below_drewN (Below.refl _ _) _))
    · obtain rfl : i = d.loose.length := by omega
      have q1 : ¬ (d.loose.length : Int) < (d.loose.length : Int) := by omega
      have f1 := hD.fz 1
      have c1 := hD.c1
      have HD := Lib.hid hD.loosed
      have HO := Lib.hid (show OnlyF F w (wr.setCell ⟨p, 1, none⟩ (.slice none 0 0)) from (OnlyF.trans ⟨hO.os, hO.tape, hO.output, hO.size, fun b hb hn => hO.block b hb (fun hx => hn (HH.out.fs b hx))⟩ (OnlyF.refl F wr)).set HH.out.fp 1 _)
      clear hD hO
      go_wp2
      go_end0
      exact ⟨rfl, HD.out, HO.out⟩
attribute [local irreducible] Go.wpQuiet in
set_option maxHeartbeats 4000000 in
set_option maxRecDepth 100000 in
theorem settle_some {w : World} {F : Nat → Prop} {p : Nat} {sv lv kv : Value} {d : Dk} (h : DAt w F p sv lv kv d) (hin : Inside d) (b : Nat) (v : Value) (ks : List Bool) (hb : w.cell? ⟨b, 0, none⟩ = some v) (hbn : sv.ownBlock ≠ some b) (hkr : KRow w v ks) (hkn : ∀ a n c, v = .slice (some a) n c → 0 < n → sv.ownBlock ≠ some a.block) : Calls Try.prog 35 #[.pointer (some ⟨p, 0, none⟩), .func (.func 37) #[] #[.pointer (some ⟨b, 0, none⟩)]] w fun e w' =>
    e = .returned (.tuple #[]) ∧ DAt w' F p sv (.slice none 0 0) kv (settleD (fun i => ks.getD i false) d) ∧ OnlyF F w w' := by
  obtain ⟨ol, cl, rfl⟩ := ownsRow_form h.lo
  obtain ⟨os, cs, rfl⟩ := ownsRow_form h.su
  have hlen : d.loose.length ≤ 9223372036854775807 := by
    rcases h.lo.2 with ⟨_, h3⟩ | ⟨g', cap, cur, e, _, _, h4, h5, _⟩
    · omega
    · unfold maxLen at h5
      omega
  obtain ⟨K, hK⟩ : ∃ K : Nat → Bool, K = (fun i => ks.getD i false) := ⟨_, rfl⟩
  rw [← hK]
  have HK := Lib.hid hK
  have HH := Lib.hid h
  have HB := Lib.hid hb
  have HBN := Lib.hid hbn
  have HKR := Lib.hid hkr
  have HKN := Lib.hid hkn
  clear hb hbn hkr hkn
  have c1 := h.c1
  have HL := Lib.hid hlen
  clear h hlen hK
  go_enter Try.func35, Try.ntmps35
  go_wp2
  go_loopg [11] d.loose.length (fun k v11 wr => ∃ i : Nat, v11 = .int .i64 (i : Int) ∧ i ≤ d.loose.length ∧ DAt wr F p (.slice os d.sure.length cs) (.slice ol d.loose.length cl) kv { d with sure := setN K d.loose d.sure i } ∧ OnlyF (SB (.slice os d.sure.length cs)) w wr ∧ k = d.loose.length - i)
  case atStart => exact ⟨0, rfl, by omega, HH.out, OnlyF.refl _ _, rfl⟩
  case round =>
    obtain ⟨i, rfl, hi, hD, hO, rfl⟩ := hrel
    by_cases hil : i < d.loose.length
    · obtain ⟨x, hx⟩ : ∃ x, d.loose[i]? = some x := ⟨_, List.getElem?_eq_getElem hil⟩
      have hxin : x.1 < d.sure.length := hin x (List.mem_of_getElem? hx)
      obtain ⟨gl, rfl⟩ := ownsRow_at HH.out.lo (by omega)
      obtain ⟨gs, rfl⟩ := ownsRow_at HH.out.su (by omega)
      have l0 : wr.cell? ((⟨gl, 0, none⟩ : Addr).add (i * 2)) = some (.int .i64 (x.1 : Int)) := by
        rw [add_zero, hD.lo.cellAt (i * 2) (by show i * 2 < d.loose.length * 2; omega)]
        exact (looseV_get _ _ _ hx).1
      have l1 : wr.cell? ⟨((⟨gl, 0, none⟩ : Addr).add (i * 2)).block, ((⟨gl, 0, none⟩ : Addr).add (i * 2)).off + 1, none⟩ = some (.string x.2) := by
        rw [add_zero, hD.lo.cellAt (i * 2 + 1) (by show i * 2 + 1 < d.loose.length * 2; omega)]
        exact (looseV_get _ _ _ hx).2
      obtain ⟨al, hal⟩ : ∃ al, al = (⟨gl, 0, none⟩ : Addr) := ⟨_, rfl⟩
      rw [← hal] at l0 l1
      have q1 : (i : Int) < (d.loose.length : Int) := by omega
      have q3 : ((i : Int)).toNat = i := by omega
      have q4 : (0 : Int) ≤ (i : Int) := by omega
      have hwb : wr.cell? ⟨b, 0, none⟩ = some v := (World.cell?_of_block (hO.block b (World.block_lt_of_cell? w _ HB.out) HBN.out)).trans HB.out
      have hwk : KRow wr v ks := HKR.out.keep hO (fun a n c e hn => HKN.out a n c e hn)
      have HW := Lib.hid (fun o : Obj => And.intro (show (wr.alloc o).cell? ⟨b, 0, none⟩ = some v from Lib.cell?_alloc_some _ hwb) (hwk.keepB ((Below.refl _ _).alloc (Nat.le_refl _) o)))
      obtain ⟨kb, hkb⟩ : ∃ kb, kb = ks.getD i false := ⟨_, rfl⟩
      have HC := Lib.hid (fun o : Obj => some_calls (wr.alloc o) i b v ks (HW.out o).1 (HW.out o).2)
      rw [← hkb] at HC
      have HG := Lib.hid hkb
      clear hwb hwk hkb
      have HD := Lib.hid hD
      have HO := Lib.hid hO
      have HX := Lib.hid hx
      have HI := Lib.hid hxin
      have HAL := Lib.hid hal
      rw [← hal]
      clear hD hO hx hxin hal
      go_upto_if 18 with (go_at_call 37; refine (HC.out _).mono ?_; rintro e w' ⟨rfl, rfl⟩)
      have hD := HD.out
      have D2 := hD.keepB ((Below.refl wr.heap.size wr).alloc (Nat.le_refl _) (.cells #[.int .i64 (x.1 : Int), .string x.2] 66))
      have b0 : (wr.alloc (.cells #[.int .i64 (x.1 : Int), .string x.2] 66)).cell? ⟨wr.heap.size, 0, none⟩ = some (.int .i64 (x.1 : Int)) := by rw [block_cell (alloc_new _ _ _ rfl)]; rfl
      have b1 : (wr.alloc (.cells #[.int .i64 (x.1 : Int), .string x.2] 66)).cell? ⟨wr.heap.size, 1, none⟩ = some (.string x.2) := by rw [block_cell (alloc_new _ _ _ rfl)]; rfl
      have O2 := HO.out.alloc (.cells #[.int .i64 (x.1 : Int), .string x.2] 66)
      clear l0 l1
      generalize wr.alloc (.cells #[.int .i64 (x.1 : Int), .string x.2] 66) = wa at *
      generalize wr.heap.size = nb at b0 b1 ⊢
      have su : wa.ownsRow 0 9 1 (.slice (some ⟨gs, 0, none⟩) d.sure.length cs) d.sure.length ((setN K d.loose d.sure i).map Value.string) := by
        have := D2.su
        rw [show ({ d with sure := setN K d.loose d.sure i } : Dk).sure.length = d.sure.length from setN_length _ _ _ _] at this
        exact this
      obtain ⟨old, hold⟩ : ∃ old, (setN K d.loose d.sure i)[x.1]? = some old := ⟨_, List.getElem?_eq_getElem (by rw [setN_length]; exact HI.out)⟩
      have s0 : wa.cell? ((⟨gs, 0, none⟩ : Addr).add x.1) = some (.string old) := by
        rw [add_zero, su.cellAt x.1 (by have := HI.out; omega), List.getElem?_map, hold]
        rfl
      have sf : wa.frozen? ((⟨gs, 0, none⟩ : Addr).add x.1) = false := by
        rw [add_zero]
        exact su.frozenAt x.1
      have c0 := D2.c0
      have hxi := HI.out
      have q5 : ((x.1 : Nat) : Int) < (d.sure.length : Int) := by omega
      have q6 : ((x.1 : Nat) : Int).toNat = x.1 := by omega
      have q7 : (0 : Int) ≤ ((x.1 : Nat) : Int) := by omega
      have HD3 := Lib.hid (D2.putSure (setN_length _ _ _ _).symm x.1 x.2)
      have HO3 := Lib.hid (O2.set (F := SB (.slice (some ⟨gs, 0, none⟩) d.sure.length cs)) (p := gs) rfl x.1 (.string x.2))
      have HD2 := Lib.hid D2
      have HO2 := Lib.hid O2
      rw [← add_zero] at HD3 HO3
      obtain ⟨ag, hag⟩ : ∃ ag, ag = (⟨gs, 0, none⟩ : Addr) := ⟨_, rfl⟩
      rw [← hag] at c0 s0 sf
      have HAG := Lib.hid hag
      have hl := HL.out
      clear hD D2 O2 su hold hag c1
      cases kb
      · go_wp2
        rw [HAL.out]
        go_roundg (d.loose.length - (i + 1))
        case measure => omega
        case rel =>
          refine ⟨i + 1, by simp, by omega, ?_, HO2.out, rfl⟩
          rw [setN_no (by rw [HK.out]; exact HG.out.symm)]
          exact HD2.out
      · go_upto_region 4 with fail
        refine QT.wp_region_draws_tail 9 (by kernel_rfl) (by kernel_rfl) ?_
        simp only [List.take_succ_cons, List.take_zero, List.drop_succ_cons, List.drop_zero]
        repeat (quiet_step (fail))
        refine wpQuiet_nil ?_
        intro w3 hw3
        obtain ⟨pq, hw3'⟩ := hw3
        subst hw3'
        go_wp2
        rw [HAL.out]
        go_roundg (d.loose.length - (i + 1))
        case measure => omega
        case rel =>
          have e : (wa.drewN pq).setCell (ag.add x.1) (.string x.2) = (wa.setCell (ag.add x.1) (.string x.2)).drewN pq := rfl
          rw [e, HAG.out]
          refine ⟨i + 1, by simp, by omega, ?_, ?_, rfl⟩
          · rw [setN_yes HX.out (by rw [HK.out]; exact HG.out.symm)]
            exact HD3.out.keepB (below_drewN (Below.refl _ _) _)
          · rw [add_zero]
            exact HO3.out.trans (OnlyF.of (below_drewN (Below.refl _ _) _))
    · obtain rfl : i = d.loose.length := by omega
      have q1 : ¬ (d.loose.length : Int) < (d.loose.length : Int) := by omega
      have f1 := hD.fz 1
      have c1 := hD.c1
      have HD := Lib.hid hD.loosed
      have HO := Lib.hid (show OnlyF F w (wr.setCell ⟨p, 1, none⟩ (.slice none 0 0)) from (OnlyF.trans ⟨hO.os, hO.tape, hO.output, hO.size, fun b hb hn => hO.block b hb (fun hx => hn (HH.out.fs b hx))⟩ (OnlyF.refl F wr)).set HH.out.fp 1 _)
      clear hD hO
      go_wp2
      go_end0
      exact ⟨rfl, HD.out, HO.out⟩
end Go.Proofs.Yteblobookpldfaa.Se
