/- The document's disk: a crash, a flush. -/
import Derived.Test.YteblobookpldfaaSeV
namespace Go.Proofs.Yteblobookpldfaa.Se
open Go.RowKit Go.Shelf Go.Proofs
attribute [local go_sem] Oper.semAt_some

theorem setN_stop {K : Nat → Bool} {L : List (Nat × ByteArray)} {s : List ByteArray} {i : Nat} (h : ∀ j, i ≤ j → K j = false) : ∀ m, i ≤ m → setN K L s m = setN K L s i
  | 0, hm => by obtain rfl : i = 0 := by omega
                rfl
  | m + 1, hm => by
    by_cases e : i = m + 1
    · rw [e]
    · rw [setN_no (h m (by omega)), setN_stop h m (by omega)]
def InsideR (r : Rk) : Prop := ∀ x ∈ r.loose, x.1 < r.sure.length
def settleR (K : Nat → Bool) (r : Rk) : Rk := { r with sure := setN K r.loose r.sure r.loose.length, loose := [] }
def crashR (ks : List Bool) (r : Rk) : Rk := { settleR (fun i => ks.getD i false) r with down := true, left := -1 }
def flushR (r : Rk) : Rk := settleR (fun _ => true) r
/-- Within the loop: the copy of the sectors. -/
structure CI (w : World) (F : Nat → Prop) (p gs n cs : Nat) (sv lv kv : Value) (r : Rk) (l : List ByteArray) (W : World) : Prop where
  at' : RAt W F p sv lv kv r
  below : Below w.heap.size w W
  row : W.ownsRow w.heap.size 9 1 (.slice (some ⟨gs, 0, none⟩) n cs) n (l.map Value.string)
theorem CI.gs {w W : World} {F : Nat → Prop} {p gs n cs : Nat} {sv lv kv : Value} {r : Rk} {l : List ByteArray} (h : CI w F p gs n cs sv lv kv r l W) : w.heap.size ≤ gs := (h.row.lt gs rfl).1
theorem CI.keepB {w W W' : World} {F : Nat → Prop} {p gs n cs : Nat} {sv lv kv : Value} {r : Rk} {l : List ByteArray} (h : CI w F p gs n cs sv lv kv r l W) (hB : Below W.heap.size W W') : CI w F p gs n cs sv lv kv r l W' :=
  ⟨h.at'.keepB hB, h.below.trans (hB.mono h.below.size), ownsRow_block h.row fun k hk => hB.block k (h.row.lt k hk).2⟩
theorem CI.set {w W : World} {F : Nat → Prop} {p gs n cs : Nat} {sv lv kv : Value} {r : Rk} {l : List ByteArray} (h : CI w F p gs n cs sv lv kv r l W) (hF : ∀ x, F x → x < w.heap.size) (j : Nat) (x : ByteArray) :
    CI w F p gs n cs sv lv kv r (l.set j x) (W.setCell ⟨gs, j, none⟩ (.string x)) := by
  have hg := h.gs
  refine ⟨h.at'.keep fun b _ hb => Below.heap_setCell _ _ _ _ (by have := hF b hb; show b ≠ gs; omega), h.below.setCell (p := ⟨gs, j, none⟩) hg _, ?_⟩
  have := (h.row.stored j (.string x)).1
  rw [List.map_set]
  exact this
theorem CI.sec {w W : World} {F : Nat → Prop} {p gs n cs : Nat} {sv lv kv : Value} {r : Rk} {l : List ByteArray} (h : CI w F p gs n cs sv lv kv r l W) (hl : l.length = n) (j : Nat) (hj : j < n) :
    (∃ old, W.cell? ((⟨gs, 0, none⟩ : Addr).add j) = some (.string old)) ∧ W.frozen? ((⟨gs, 0, none⟩ : Addr).add j) = false := by
  rw [add_zero]
  obtain ⟨old, hold⟩ : ∃ old, l[j]? = some old := ⟨_, List.getElem?_eq_getElem (by omega)⟩
  exact ⟨⟨old, by rw [h.row.cellAt j (by omega), List.getElem?_map, hold]; rfl⟩, h.row.frozenAt j⟩
theorem RAt.loose_at {W : World} {F : Nat → Prop} {p gl n cl : Nat} {sv kv : Value} {r : Rk} (h : RAt W F p sv (.slice (some ⟨gl, 0, none⟩) n cl) kv r) (hn : n = r.loose.length) (i : Nat) (x : Nat × ByteArray) (hx : r.loose[i]? = some x) :
    W.cell? ((⟨gl, 0, none⟩ : Addr).add (i * 2)) = some (.int .i64 (x.1 : Int)) ∧ W.cell? ⟨((⟨gl, 0, none⟩ : Addr).add (i * 2)).block, ((⟨gl, 0, none⟩ : Addr).add (i * 2)).off + 1, none⟩ = some (.string x.2) := by
  subst hn
  have hi := (List.getElem?_eq_some_iff.1 hx).1
  rw [add_zero]
  exact ⟨by rw [h.lo.cellAt (i * 2) (by omega)]; exact (looseV_get _ _ _ hx).1, by rw [h.lo.cellAt (i * 2 + 1) (by omega)]; exact (looseV_get _ _ _ hx).2⟩
theorem RAt.ofCI {w W : World} {F : Nat → Prop} {p gs n cs : Nat} {sv lv kv : Value} {r : Rk} {l : List ByteArray} (h : CI w F p gs n cs sv lv kv r l W) (hl : l.length = n) :
    RAt ((W.setCell ⟨p, 0, none⟩ (.slice (some ⟨gs, 0, none⟩) n cs)).setCell ⟨p, 1, none⟩ (.slice none 0 0)) (grow F w W) p (.slice (some ⟨gs, 0, none⟩) n cs) (.slice none 0 0) kv { r with sure := l, loose := [] } := by
  have h0 := h.at'.wider (G := grow F w W) fun _ hx => .inl hx
  have h1 := h0.put 0 (.slice (some ⟨gs, 0, none⟩) n cs) (r' := { r with sure := l }) (fun k hk => .inr (h.row.lt k hk)) h0.fl h0.fk rfl (by subst hl; exact ownsRow_base h.row (Nat.zero_le _)) h0.lo h0.ke
  exact h1.put 1 (.slice none 0 0) (r' := { r with sure := l, loose := [] }) h1.fs (fun k hk => by cases hk) h1.fk rfl h1.su (World.ownsRow_nil _ _ _ _) h1.ke
set_option maxHeartbeats 2000000 in
theorem rCrash_down {w : World} {F : Nat → Prop} {p : Nat} {sv lv kv : Value} {r : Rk} (h : RAt w F p sv lv kv r) (hd : r.down = true) (v : Value) : Calls Try.prog 28 #[.pointer (some ⟨p, 0, none⟩), v] w fun e w' => e = .returned (.int .i64 61) ∧ w = w' := by
  have c2 := h.c2
  rw [hd] at c2
  clear h
  go_enter Try.func28, Try.ntmps28
  go_wp2
  go_ret
  exact ⟨rfl, rfl⟩
set_option maxHeartbeats 2000000 in
theorem rFlush_down {w : World} {F : Nat → Prop} {p : Nat} {sv lv kv : Value} {r : Rk} (h : RAt w F p sv lv kv r) (hd : r.down = true) : Calls Try.prog 27 #[.pointer (some ⟨p, 0, none⟩)] w fun e w' => e = .returned (.int .i64 61) ∧ w = w' := by
  have c2 := h.c2
  rw [hd] at c2
  clear h
  go_enter Try.func27, Try.ntmps27
  go_wp2
  go_ret
  exact ⟨rfl, rfl⟩
attribute [local irreducible] Go.wpQuiet in
set_option maxHeartbeats 4000000 in
set_option maxRecDepth 100000 in
theorem rCrash_ok {w : World} {F : Nat → Prop} {p : Nat} {sv lv kv : Value} {r : Rk} (h : RAt w F p sv lv kv r) (hF : ∀ x, F x → x < w.heap.size) (hd : r.down = false) (hpos : 0 < r.sure.length) (hmax : r.sure.length ≤ 1000000) (hin : InsideR r) (v : Value) (ks : List Bool) (hk : KRow w v ks) :
    Calls Try.prog 28 #[.pointer (some ⟨p, 0, none⟩), v] w fun e w' => ∃ sv', e = .returned (.int .i64 0) ∧ RAt w' (grow F w w') p sv' (.slice none 0 0) kv (crashR ks r) ∧ OnlyF F w w' := by
  obtain ⟨i0, hi0, hz0, hz1, hz2⟩ := info_parts info9
  obtain ⟨o, c, rfl⟩ := hk.form
  obtain ⟨os, cs0, rfl⟩ := ownsRow_form h.su
  obtain ⟨ol, cl, rfl⟩ := ownsRow_form h.lo
  have c0 := h.c0
  have c2 := h.c2
  rw [hd] at c2
  obtain ⟨K, hK⟩ : ∃ K : Nat → Bool, K = (fun i => ks.getD i false) := ⟨_, rfl⟩
  have HK := Lib.hid hK
  have HS := Lib.hid (ownsRow_src h.su)
  have HH := Lib.hid h
  have HF := Lib.hid hF
  have HX := Lib.hid hin
  have HKR := Lib.hid hk
  have hlen : r.loose.length ≤ 9223372036854775807 := by
    rcases h.lo.2 with ⟨_, h3⟩ | ⟨g', cap, cur, e, _, _, h4, h5, _⟩
    · omega
    · unfold maxLen at h5
      omega
  clear h hK hin hk hF
  go_enter Try.func28, Try.ntmps28
  go_wp2_with (at_builtin; refine wpList_copy _ rfl (.tmp 14) 44 rfl 9 i0 (.string ⟨#[]⟩) 1 16 Try.underlying44 hi0 hz0 hz1 hz2 rfl (by decide) (.slice os r.sure.length cs0) r.sure.length (r.sure.map Value.string) rfl HS.out (by intro u hu; obtain ⟨x, _, rfl⟩ := List.mem_map.1 hu; rfl) (by unfold maxLen; omega) (by omega) ?_
               intro v' w1 hO hB
               obtain ⟨o2, cs, rfl⟩ := ownsRow_form hO
               obtain ⟨gs, rfl⟩ := ownsRow_at hO hpos
               have hC0 : CI w F p gs r.sure.length cs (.slice os r.sure.length cs0) (.slice ol r.loose.length cl) kv r (setN K r.loose r.sure 0) w1 := ⟨HH.out.keepB hB, hB, hO⟩
               clear hO hB)
  go_loopg [6] r.loose.length (fun k v6 wr => ∃ i : Nat, v6 = .int .i64 (i : Int) ∧ i ≤ r.loose.length ∧ CI w F p gs r.sure.length cs (.slice os r.sure.length cs0) (.slice ol r.loose.length cl) kv r (setN K r.loose r.sure i) wr ∧ k = r.loose.length - i)
  case atStart => exact ⟨0, rfl, by omega, hC0, rfl⟩
  case round =>
    clear hC0 c0 c2
    obtain ⟨i, rfl, hi, hC, rfl⟩ := hrel
    have c1 := hC.at'.c1
    have q3 : ((i : Int)).toNat = i := by omega
    have q4 : (0 : Int) ≤ (i : Int) := by omega
    by_cases hil : i < r.loose.length ∧ i < ks.length
    · obtain ⟨hil, hik⟩ := hil
      have q1 : (i : Int) < (r.loose.length : Int) := by omega
      have q2 : (i : Int) < (ks.length : Int) := by omega
      obtain ⟨kb, hkb⟩ : ∃ kb, ks[i]? = some kb := ⟨_, List.getElem?_eq_getElem hik⟩
      obtain ⟨ak, rfl, ck⟩ := (HKR.out.keepB hC.below).at' i kb hkb
      have HKI : K i = kb := by
        rw [HK.out]
        show ks.getD i false = kb
        rw [List.getD_eq_getElem?_getD, hkb]
        rfl
      clear hkb
      cases kb
      · have hC2 := hC
        rw [← setN_no HKI] at hC2
        have HC2 := Lib.hid hC2
        clear hC hC2
        go_wp2
        go_roundg (r.loose.length - (i + 1))
        case measure => omega
        case rel => exact ⟨i + 1, by simp, by omega, HC2.out, rfl⟩
      · have hX := HX.out
        obtain ⟨x, hx⟩ : ∃ x, r.loose[i]? = some x := ⟨_, List.getElem?_eq_getElem hil⟩
        have hxin : x.1 < r.sure.length := hX x (List.mem_of_getElem? hx)
        obtain ⟨gl, rfl⟩ := ownsRow_at hC.at'.lo (by omega)
        obtain ⟨l0, l1⟩ := hC.at'.loose_at rfl i x hx
        obtain ⟨⟨old, s0⟩, sf⟩ := hC.sec (setN_length _ _ _ _) x.1 hxin
        have hC2 := hC.set HF.out x.1 x.2
        rw [← setN_yes hx HKI] at hC2
        have HC2 := Lib.hid hC2
        rw [← add_zero gs x.1] at HC2
        obtain ⟨al, hal⟩ : ∃ al, al = (⟨gl, 0, none⟩ : Addr) := ⟨_, rfl⟩
        obtain ⟨ag, hag⟩ : ∃ ag, ag = (⟨gs, 0, none⟩ : Addr) := ⟨_, rfl⟩
        rw [← hal] at l0 l1 c1
        rw [← hag] at s0 sf
        have HAG := Lib.hid hag
        rw [← hag]
        have HC0 := Lib.hid hC
        clear hC hX hx hC2 hal hag
        have q5 : ((x.1 : Nat) : Int) < (r.sure.length : Int) := by omega
        have q6 : ((x.1 : Nat) : Int).toNat = x.1 := by omega
        have q7 : (0 : Int) ≤ ((x.1 : Nat) : Int) := by omega
        go_upto_region 8 with fail
        refine QT.wp_region_draws_tail 18 (by kernel_rfl) (by kernel_rfl) ?_
        simp only [List.take_succ_cons, List.take_zero, List.drop_succ_cons, List.drop_zero]
        repeat (quiet_step (fail))
        refine wpQuiet_nil ?_
        intro w3 hw3
        obtain ⟨pq, hw3'⟩ := hw3
        subst hw3'
        go_wp2
        rw [HAG.out]
        go_roundg (r.loose.length - (i + 1))
        case measure => omega
        case rel =>
          have e : (wr.drewN pq).setCell ((⟨gs, 0, none⟩ : Addr).add x.1) (.string x.2) = (wr.setCell ((⟨gs, 0, none⟩ : Addr).add x.1) (.string x.2)).drewN pq := rfl
          rw [e]
          exact ⟨i + 1, by simp, by omega, HC2.out.keepB (below_drewN (Below.refl _ _) _), rfl⟩
    · have hend : setN K r.loose r.sure i = setN K r.loose r.sure r.loose.length := by
        by_cases e : i = r.loose.length
        · rw [e]
        · refine (setN_stop (fun j hj => ?_) _ hi).symm
          rw [HK.out]
          show ks.getD j false = false
          rw [List.getD_eq_getElem?_getD, List.getElem?_eq_none (by omega)]
          rfl
      rw [hend] at hC
      have f0 := hC.at'.fz 0
      have f1 := hC.at'.fz 1
      have f2 := hC.at'.fz 2
      have f4 := hC.at'.fz 4
      have c0 := hC.at'.c0
      have c2 := hC.at'.c2
      have c4 := hC.at'.c4
      have H1 := Lib.hid (RAt.ofCI hC (setN_length _ _ _ _))
      have HO := Lib.hid (OnlyF.of hC.below : OnlyF F w wr)
      have HP := HH.out.fp
      clear hC hend
      have fin : ∀ (Q : World → Prop), Q ((((wr.setCell ⟨p, 0, none⟩ (.slice (some ⟨gs, 0, none⟩) r.sure.length cs)).setCell ⟨p, 1, none⟩ (.slice none 0 0)).setCell ⟨p, 2, none⟩ (.bool true)).setCell ⟨p, 4, none⟩ (.int .i64 (-1))) → Q ((((wr.setCell ⟨p, 0, none⟩ (.slice (some ⟨gs, 0, none⟩) r.sure.length cs)).setCell ⟨p, 1, none⟩ (.slice none 0 0)).setCell ⟨p, 2, none⟩ (.bool true)).setCell ⟨p, 4, none⟩ (.int .i64 (-1))) := fun _ h => h
      have h2 := H1.out.putHead 2 (.bool true) { r with sure := setN K r.loose r.sure r.loose.length, loose := [], down := true } rfl rfl rfl rfl
      have h3 := h2.putHead 4 (.int .i64 (-1)) { r with sure := setN K r.loose r.sure r.loose.length, loose := [], down := true, left := -1 } rfl rfl rfl rfl
      have H3 := Lib.hid h3
      have HO4 := Lib.hid ((((HO.out.set HP 0 (.slice (some ⟨gs, 0, none⟩) r.sure.length cs)).set HP 1 (.slice none 0 0)).set HP 2 (.bool true)).set HP 4 (.int .i64 (-1)))
      clear h2 h3 fin
      have hk3 := HK.out
      by_cases q1 : (i : Int) < (r.loose.length : Int)
      · have q2 : ¬ (i : Int) < (ks.length : Int) := by omega
        go_wp2
        go_ret
        refine ⟨rfl, ⟨.slice (some ⟨gs, 0, none⟩) r.sure.length cs, ?_⟩, HO4.out⟩
        subst hk3
        exact H3.out.wider (fun x hx => hx.imp (fun h => h) (fun ⟨a, b⟩ => ⟨a, by simpa using b⟩))
      · go_wp2
        go_ret
        refine ⟨rfl, ⟨.slice (some ⟨gs, 0, none⟩) r.sure.length cs, ?_⟩, HO4.out⟩
        subst hk3
        exact H3.out.wider (fun x hx => hx.imp (fun h => h) (fun ⟨a, b⟩ => ⟨a, by simpa using b⟩))
theorem failsR_sure (r : Rk) : (failsR r).sure = r.sure ∧ (failsR r).loose = r.loose ∧ (failsR r).down = r.down ∧ (failsR r).keep = r.keep ∧ (failsR r).starts = r.starts := by
  unfold failsR
  split <;> exact ⟨rfl, rfl, rfl, rfl, rfl⟩
theorem grow_trans {F : Nat → Prop} {w w1 w2 : World} (h : w.heap.size ≤ w1.heap.size) (x : Nat) (hx : grow F w1 w2 x) : grow F w w2 x := hx.imp (fun h => h) (fun ⟨a, b⟩ => ⟨by omega, b⟩)
set_option maxHeartbeats 2000000 in
theorem rFlush_due {w : World} {F : Nat → Prop} {p : Nat} {sv lv kv : Value} {r : Rk} (h : RAt w F p sv lv kv r) (hF : ∀ x, F x → x < w.heap.size) (hd : r.down = false) (h0 : r.left = 0) (hpos : 0 < r.sure.length) (hmax : r.sure.length ≤ 1000000) (hin : InsideR r) :
    Calls Try.prog 27 #[.pointer (some ⟨p, 0, none⟩)] w fun e w' => ∃ sv', e = .returned (.int .i64 61) ∧ RAt w' (grow F w w') p sv' (.slice none 0 0) kv (crashR r.keep r) ∧ OnlyF F w w' := by
  obtain ⟨o, c, rfl⟩ := ownsRow_form h.ke
  have c2 := h.c2
  rw [hd] at c2
  have e0 : failsR r = r := by unfold failsR; rw [if_neg (by omega)]
  have HU := Lib.hid (fails_calls h (by omega))
  rw [e0, decide_eq_true h0] at HU
  have HS := Lib.hid (fun (w1 : World) (h1 : RAt w1 F p sv lv (.slice o r.keep.length c) r) (hw : w.heap.size ≤ w1.heap.size) => rCrash_ok h1 (fun x hx => Nat.lt_of_lt_of_le (hF x hx) hw) hd hpos hmax hin _ r.keep (KRow.own h1.ke))
  clear h hin hF
  go_enter Try.func27, Try.ntmps27
  go_wp2_with (first
    | (go_at_call 45; refine HU.out.mono ?_; rintro e w1 ⟨rfl, hD1, hO1⟩; have c5 := hD1.c5)
    | (go_at_call 28; refine (HS.out _ hD1 hO1.size).mono ?_; rintro e w2 ⟨sv', rfl, hD2, hO2⟩))
  go_ret
  exact ⟨sv', rfl, hD2.wider (grow_trans hO1.size), hO1.trans hO2⟩
attribute [local irreducible] Go.wpQuiet in
set_option maxHeartbeats 4000000 in
set_option maxRecDepth 100000 in
theorem rFlush_ok {w0 : World} {F : Nat → Prop} {p : Nat} {sv lv kv : Value} {r0 : Rk} (h : RAt w0 F p sv lv kv r0) (hF : ∀ x, F x → x < w0.heap.size) (hd : r0.down = false) (h0 : ¬ r0.left = 0) (hb : r0.left ≤ 1000000) (hpos : 0 < r0.sure.length) (hmax : r0.sure.length ≤ 1000000) (hin : InsideR r0) :
    Calls Try.prog 27 #[.pointer (some ⟨p, 0, none⟩)] w0 fun e w' => ∃ sv', e = .returned (.int .i64 0) ∧ RAt w' (grow F w0 w') p sv' (.slice none 0 0) kv (flushR (failsR r0)) ∧ OnlyF F w0 w' := by
  obtain ⟨i0, hi0, hz0, hz1, hz2⟩ := info_parts info9
  obtain ⟨os, cs0, rfl⟩ := ownsRow_form h.su
  obtain ⟨ol, cl, rfl⟩ := ownsRow_form h.lo
  have c2 := h.c2
  rw [hd] at c2
  have HU := Lib.hid (fails_calls h hb)
  rw [decide_eq_false h0] at HU
  obtain ⟨r, hr⟩ : ∃ r, r = failsR r0 := ⟨_, rfl⟩
  rw [← hr] at HU ⊢
  obtain ⟨t1, t2, t3, t4, t5⟩ := failsR_sure r0
  rw [← hr] at t1 t2 t3 t4 t5
  unfold InsideR at hin
  rw [← t1] at hpos hmax
  rw [← t1, ← t2] at hin
  rw [← t1, ← t2] at HU
  obtain ⟨K, hK⟩ : ∃ K : Nat → Bool, K = (fun _ => true) := ⟨_, rfl⟩
  have HK := Lib.hid hK
  have HX := Lib.hid (show InsideR r from hin)
  have hlen : r.loose.length ≤ 9223372036854775807 := by
    rw [t2]
    rcases h.lo.2 with ⟨_, h3⟩ | ⟨g', cap, cur, e, _, _, h4, h5, _⟩
    · omega
    · unfold maxLen at h5
      omega
  have HF0 := Lib.hid hF
  clear h hK hin hF hr t1 t2 t3 t4 t5
  go_enter Try.func27, Try.ntmps27
  go_wp2_with (first
    | (go_at_call 45; refine HU.out.mono ?_; rintro e w ⟨rfl, hD1, hO1⟩; have c0 := hD1.c0; have HH := Lib.hid hD1; have HS := Lib.hid (ownsRow_src hD1.su); have HF := Lib.hid (fun x hx => Nat.lt_of_lt_of_le (HF0.out x hx) hO1.size); have HO1 := Lib.hid hO1; clear hD1 hO1 HU)
    | (at_builtin; refine wpList_copy _ rfl (.tmp 20) 44 rfl 9 i0 (.string ⟨#[]⟩) 1 16 Try.underlying44 hi0 hz0 hz1 hz2 rfl (by decide) (.slice os r.sure.length cs0) r.sure.length (r.sure.map Value.string) rfl HS.out (by intro u hu; obtain ⟨x, _, rfl⟩ := List.mem_map.1 hu; rfl) (by unfold maxLen; omega) (by omega) ?_
       intro v' w1 hO hB
       obtain ⟨o2, cs, rfl⟩ := ownsRow_form hO
       obtain ⟨gs, rfl⟩ := ownsRow_at hO hpos
       have hC0 : CI w F p gs r.sure.length cs (.slice os r.sure.length cs0) (.slice ol r.loose.length cl) kv r (setN K r.loose r.sure 0) w1 := ⟨HH.out.keepB hB, hB, hO⟩
       clear hO hB))
  go_loopg [4] r.loose.length (fun k v4 wr => ∃ i : Nat, v4 = .int .i64 (i : Int) ∧ i ≤ r.loose.length ∧ CI w F p gs r.sure.length cs (.slice os r.sure.length cs0) (.slice ol r.loose.length cl) kv r (setN K r.loose r.sure i) wr ∧ k = r.loose.length - i)
  case atStart => exact ⟨0, rfl, by omega, hC0, rfl⟩
  case round =>
    clear hC0 c0 c2
    obtain ⟨i, rfl, hi, hC, rfl⟩ := hrel
    have c1 := hC.at'.c1
    have q3 : ((i : Int)).toNat = i := by omega
    have q4 : (0 : Int) ≤ (i : Int) := by omega
    by_cases hil : i < r.loose.length
    · have q1 : (i : Int) < (r.loose.length : Int) := by omega
      have HKI : K i = true := by rw [HK.out]
      have hX := HX.out
      obtain ⟨x, hx⟩ : ∃ x, r.loose[i]? = some x := ⟨_, List.getElem?_eq_getElem hil⟩
      have hxin : x.1 < r.sure.length := hX x (List.mem_of_getElem? hx)
      obtain ⟨gl, rfl⟩ := ownsRow_at hC.at'.lo (by omega)
      obtain ⟨l0, l1⟩ := hC.at'.loose_at rfl i x hx
      obtain ⟨⟨old, s0⟩, sf⟩ := hC.sec (setN_length _ _ _ _) x.1 hxin
      have hC2 := hC.set HF.out x.1 x.2
      rw [← setN_yes hx HKI] at hC2
      have HC2 := Lib.hid hC2
      rw [← add_zero gs x.1] at HC2
      obtain ⟨al, hal⟩ : ∃ al, al = (⟨gl, 0, none⟩ : Addr) := ⟨_, rfl⟩
      obtain ⟨ag, hag⟩ : ∃ ag, ag = (⟨gs, 0, none⟩ : Addr) := ⟨_, rfl⟩
      rw [← hal] at l0 l1 c1
      rw [← hag] at s0 sf
      have HAG := Lib.hid hag
      rw [← hag]
      have HC0 := Lib.hid hC
      clear hC hX hx hC2 hal hag
      have q5 : ((x.1 : Nat) : Int) < (r.sure.length : Int) := by omega
      have q6 : ((x.1 : Nat) : Int).toNat = x.1 := by omega
      have q7 : (0 : Int) ≤ ((x.1 : Nat) : Int) := by omega
      go_upto_region 10 with fail
      refine QT.wp_region_draws_tail 18 (by kernel_rfl) (by kernel_rfl) ?_
      simp only [List.take_succ_cons, List.take_zero, List.drop_succ_cons, List.drop_zero]
      repeat (quiet_step (fail))
      refine wpQuiet_nil ?_
      intro w3 hw3
      obtain ⟨pq, hw3'⟩ := hw3
      subst hw3'
      go_wp2
      rw [HAG.out]
      go_roundg (r.loose.length - (i + 1))
      case measure => omega
      case rel =>
        have e : (wr.drewN pq).setCell ((⟨gs, 0, none⟩ : Addr).add x.1) (.string x.2) = (wr.setCell ((⟨gs, 0, none⟩ : Addr).add x.1) (.string x.2)).drewN pq := rfl
        rw [e]
        exact ⟨i + 1, by simp, by omega, HC2.out.keepB (below_drewN (Below.refl _ _) _), rfl⟩
    · obtain rfl : i = r.loose.length := by omega
      have f0 := hC.at'.fz 0
      have f1 := hC.at'.fz 1
      have c0 := hC.at'.c0
      have H1 := Lib.hid (RAt.ofCI hC (setN_length _ _ _ _))
      have HO := Lib.hid (OnlyF.of hC.below : OnlyF F w wr)
      have HP := HH.out.fp
      clear hC
      have HO4 := Lib.hid ((HO.out.set HP 0 (.slice (some ⟨gs, 0, none⟩) r.sure.length cs)).set HP 1 (.slice none 0 0))
      have hk3 := HK.out
      have q1 : ¬ (r.loose.length : Int) < (r.loose.length : Int) := by omega
      go_wp2
      go_ret
      refine ⟨rfl, ⟨.slice (some ⟨gs, 0, none⟩) r.sure.length cs, ?_⟩, HO1.out.trans HO4.out⟩
      subst hk3
      exact H1.out.wider (fun x hx => grow_trans HO1.out.size x (hx.imp (fun h => h) (fun ⟨a, b⟩ => ⟨a, by simpa using b⟩)))
end Go.Proofs.Yteblobookpldfaa.Se
