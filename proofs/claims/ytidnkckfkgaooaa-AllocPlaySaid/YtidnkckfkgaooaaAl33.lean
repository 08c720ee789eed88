/- The document's map: Take: the walk. -/
import Derived.Test.YtidnkckfkgaooaaAlG
import Derived.Test.YtidnkckfkgaooaaAl27
import Derived.Deep.DeepCutAuto
import Derived.Deep.CutBlock
namespace Go.Proofs.Ytidnkckfkgaooaa.Al
open Go.RowKit Go.Shelf Go.Proofs Go.Proofs.Ytidnkckfkgaooaa.Ext Go.Proofs.Ytidnkckfkgaooaa.Pure Go.Proofs.YtidnkckfkgaooaaW.PrintWords Go.Proofs.YtidnkckfkgaooaaW.PrintLast Go.Proofs.YtidnkckfkgaooaaW.PrintMore

/-- A list of extents of the call's own. -/
structure LI (w : World) (v : Value) (L : List (Int × Int)) (W : World) : Prop where
  below : Below w.heap.size w W
  own : W.ownsRow w.heap.size 43 2 v L.length (cellsE L)
theorem LI.row {w W : World} {v : Value} {L : List (Int × Int)} (h : LI w v L W) : ExRow W v L := ExRow_of_own h.own
theorem LI.form {w W : World} {v : Value} {L : List (Int × Int)} (h : LI w v L W) : ∃ o c, v = .slice o L.length c := h.row.form
theorem LI.keepB {w W W' : World} {v : Value} {L : List (Int × Int)} (h : LI w v L W) (hB : Below W.heap.size W W') : LI w v L W' :=
  ⟨h.below.trans (hB.mono h.below.size), ownsRow_block h.own (fun k hk => hB.block k (h.own.lt k hk).2)⟩
theorem LI.nil {w W : World} (h : Below w.heap.size w W) : LI w (.slice none 0 0) [] W := ⟨h, World.ownsRow_nil _ _ _ _⟩
theorem LI.snoc {w W W' : World} {v v' : Value} {L : List (Int × Int)} {x : Int × Int} {o : Obj} (h : LI w v L W) (hg : (W.alloc o).grownBy W' v.ownBlock) (ho : W'.ownsRow w.heap.size 43 2 v' (L.length + 1) (cellsE L ++ cellsE [x])) : LI w v' (L ++ [x]) W' := by
  have hs := h.below.size
  refine ⟨(h.below.alloc hs o).grown hg (by simp; omega) (fun k hk => (h.own.lt k hk).1), ?_⟩
  rw [List.length_append, List.length_singleton, cellsE_append]
  exact ho
/-- What the document's Take answers. -/
def RTEnd (w : World) (base q g cap N : Nat) (s : ByteArray) (n : Int) (e : Ending) (w' : World) : Prop :=
  ∃ v, e = .returned (.tuple #[v, .bool (decide (0 < (takeL s N n).length))]) ∧ ExRow w' v (takeL s N n) ∧ (∀ a l c, v = .slice (some a) l c → 0 < l → w.heap.size ≤ a.block) ∧ RAt w' base q g cap N (hasB (takeS s N n)) ∧ OnlyAt g w w'
theorem rtake_no {s : ByteArray} {N : Nat} {n : Int} (hl : takeL s N n = []) {w w' : World} {base q g cap : Nat} (h : RAt w' base q g cap N (hasB s)) (hB : Below w.heap.size w w') : RTEnd w base q g cap N s n (.returned (.tuple #[.slice none 0 0, .bool false])) w' := by
  have e2 : takeS s N n = s := by unfold takeS; rw [hl]; rfl
  exact ⟨.slice none 0 0, by rw [hl]; rfl, by rw [hl]; exact .inl ⟨rfl, rfl⟩, (by intro a l c h2; cases h2), by rw [e2]; exact h, .of hB⟩
/-- While the bits are set. -/
structure PI (w : World) (base q g cap N : Nat) (v : Value) (L : List (Int × Int)) (f : Nat → Bool) (W : World) : Prop where
  rat : RAt W base q g cap N f
  row : ExRow W v L
  only : OnlyAt g w W
  hv : ∀ a l c, v = .slice (some a) l c → 0 < l → w.heap.size ≤ a.block
  hg : g < w.heap.size
theorem PI.keepB {w W W' : World} {base q g cap N : Nat} {v : Value} {L : List (Int × Int)} {f : Nat → Bool} (h : PI w base q g cap N v L f W) (hB : Below W.heap.size W W') : PI w base q g cap N v L f W' :=
  ⟨h.rat.keepB hB, h.row.keepB hB, h.only.trans (.of hB), h.hv, h.hg⟩
theorem PI.congr {w W : World} {base q g cap N : Nat} {v : Value} {L : List (Int × Int)} {f k : Nat → Bool} (h : PI w base q g cap N v L f W) (e : ∀ i, i < N → f i = k i) : PI w base q g cap N v L k W :=
  ⟨h.rat.congr e, h.row, h.only, h.hv, h.hg⟩
theorem PI.set {w W : World} {base q g cap N : Nat} {v : Value} {L : List (Int × Int)} {f : Nat → Bool} (h : PI w base q g cap N v L f W) (i : Nat) (b : Bool) :
    PI w base q g cap N v L (fun j => if j = i then b else f j) (W.setCell ((⟨g, 0, none⟩ : Addr).add i) (.bool b)) := by
  obtain ⟨h1, _⟩ := h.rat.set i b
  have hO : OnlyAt g W (W.setCell ((⟨g, 0, none⟩ : Addr).add i) (.bool b)) := by
    rw [add_zero]
    exact (OnlyAt.refl g W).set i _
  exact ⟨h1, h.row.keep (fun a l c e hl => by have := h.hv a l c e hl; have := h.hg; omega) hO, h.only.trans hO, h.hv, h.hg⟩
theorem pack_pos {s : ByteArray} {N m : Nat} (h : Bits s N (hasB s)) (m1 : 1 ≤ m) (hc : m + countN s ≤ N) : 0 < (packE ((freeL s N).take m)).length := by
  have hl := freeL_length h
  obtain ⟨_, _, _, r4⟩ := pack_rise ((freeL s N).take m) ((freeFrom_pair s N 0).sublist (List.take_sublist _ _))
  rw [List.length_take] at r4
  cases hp : packE ((freeL s N).take m) with
  | nil =>
    rw [hp] at r4
    have : sumE [] = 0 := rfl
    omega
  | cons x r => simp
theorem sch_end {s : ByteArray} {N m i left : Nat} {L : List (Int × Int)} (h : Bits s N (hasB s)) (m1 : 1 ≤ m) (hc : m + countN s ≤ N) (k : Sch s N m i left L) (hall : ∀ p, p < N → runN (hasB s) N p < m) (hd : i = N ∨ left = 0) :
    (if 8 < L.length then [] else L) = findE s N m ∧ 0 < L.length := by
  rw [find_not m1 hall, k.done hd]
  exact ⟨rfl, pack_pos h m1 hc⟩
attribute [local irreducible] takeL takeS findE Bits Go.wpQuiet runN packE covF
set_option maxRecDepth 100000 in
set_option maxHeartbeats 8000000 in
theorem refTake_calls (w : World) (base q g cap N : Nat) (s : ByteArray) (n : Int) (h : RAt w base q g cap N (hasB s)) (hs : Bits s N (hasB s)) (h1 : 1 ≤ N) (hN : N ≤ 4096) (hn : I64 n) :
    Calls Try.prog 34 #[.pointer (some ⟨q, 0, none⟩), .int .i64 n] w (RTEnd w base q g cap N s n) := by
  obtain ⟨i0, hi, hz0, hz1, hz2⟩ := info_parts info43
  have HI := Lib.hid (And.intro hi (And.intro hz0 (And.intro hz1 hz2)))
  clear hi hz0 hz1 hz2
  have c0 := h.c0
  have hcl : cntF (hasB s) N ≤ N := cntF_le _ _
  have hcc := hs.count
  have HH := Lib.hid h
  have HS := Lib.hid hs
  obtain ⟨ag, hag⟩ : ∃ ag, ag = (⟨g, 0, none⟩ : Addr) := ⟨_, rfl⟩
  rw [← hag] at c0
  have HAG := Lib.hid hag
  clear hag hs
  unfold I64 at hn
  by_cases hn1 : n < 1
  · have HE := Lib.hid (fun d => rtake_no (n := n) (by unfold takeL; rw [if_pos (.inl hn1)]) (h.keepB (pw_below_drewN (Below.refl _ _) d)) (pw_below_drewN (Below.refl _ w) d))
    have d1 : decide (n < 1) = true := decide_eq_true hn1
    clear h hn1 hcl hcc hn
    go_enter Try.func34, Try.ntmps34
    go_wp2
    refine wp_region_quiet_lit (by kernel_rfl) (by kernel_rfl) ?_
    quiet_step (fail)
    quiet_step (fail)
    quiet_step (fail)
    refine wpQuiet_skip (by kernel_rfl) ?_
    refine wpQuiet_skip (by kernel_rfl) ?_
    refine wpQuiet_skip (by kernel_rfl) ?_
    refine wpQuiet_skip (by kernel_rfl) ?_
    refine wpQuiet_skip (by kernel_rfl) ?_
    refine wpQuiet_skip (by kernel_rfl) ?_
    refine wpQuiet_skip (by kernel_rfl) ?_
    refine wpQuiet_skip (by kernel_rfl) ?_
    refine wpQuiet_skip (by kernel_rfl) ?_
    refine wpQuiet_skip (by kernel_rfl) ?_
    quiet_step (fail)
    refine wpQuiet_nil ?_
    intro _ hw'
    obtain ⟨nq, hw''⟩ := hw'
    subst hw''
    go_wp2
    go_ret2
    exact HE.out nq
  · have d1 : decide (n < 1) = false := decide_eq_false hn1
    have HU := Lib.hid (fun d => refUsed_calls (w.drewN d) base q g cap N (hasB s) (h.keepB (pw_below_drewN (Below.refl _ _) d)) hN)
    have w1' : IntKind.i64.wrap ((N : Int) - (cntF (hasB s) N : Int)) = (N : Int) - (cntF (hasB s) N : Int) := by rw [IntKind.wrap_i64]; omega
    by_cases hn2 : (N : Int) - (cntF (hasB s) N : Int) < n
    · have HE := Lib.hid (fun d => rtake_no (n := n) (by unfold takeL; rw [if_pos (.inr (by rw [hcc]; exact hn2))]) (h.keepB (pw_below_drewN (Below.refl _ _) d)) (pw_below_drewN (Below.refl _ w) d))
      have d2 : decide ((N : Int) - (cntF (hasB s) N : Int) < n) = true := decide_eq_true hn2
      clear h hcc hn hcl
      generalize cntF (hasB s) N = cn at *
      clear hn1 hn2
      go_enter Try.func34, Try.ntmps34
      go_wp2
      refine wp_region_quiet_lit (by kernel_rfl) (by kernel_rfl) ?_
      quiet_step (fail)
      quiet_step (fail)
      quiet_step (fail)
      quiet_step (fail)
      quiet_step (fail)
      quiet_step (fail)
      quiet_step (fail)
      quiet_step (fail)
      quiet_step (fail)
      quiet_step (fail)
      quiet_step ((go_at_call 36; exact Calls.quiet_of_same ((HU.out _).mono fun e w' hh => ⟨hh.1, hh.2.symm⟩)))
      quiet_step (fail)
      quiet_step (fail)
      quiet_step (fail)
      refine wpQuiet_nil ?_
      intro _ hw'
      obtain ⟨nq, hw''⟩ := hw'
      subst hw''
      go_wp2
      go_ret2
      exact HE.out nq
    · have d2 : decide ((N : Int) - (cntF (hasB s) N : Int) < n) = false := decide_eq_false hn2
      obtain ⟨m, rfl⟩ : ∃ m : Nat, n = (m : Int) := ⟨n.toNat, by omega⟩
      have m1 : 1 ≤ m := by omega
      have m2 : m ≤ N := by omega
      have HCT := Lib.hid (show m + countN s ≤ N by rw [hcc]; omega)
      have HTL := Lib.hid (show takeL s N (m : Int) = findE s N m by unfold takeL; rw [if_neg (by rw [hcc]; omega), Int.toNat_natCast])
      clear h hcc hn hcl
      generalize cntF (hasB s) N = cn at *
      clear hn1 hn2
      go_enter Try.func34, Try.ntmps34
      go_wp2
      refine wp_region_quiet_lit (by kernel_rfl) (by kernel_rfl) ?_
      quiet_step (fail)
      quiet_step (fail)
      quiet_step (fail)
      quiet_step (fail)
      quiet_step (fail)
      quiet_step (fail)
      quiet_step (fail)
      quiet_step (fail)
      quiet_step (fail)
      quiet_step (fail)
      quiet_step ((go_at_call 36; exact Calls.quiet_of_same ((HU.out _).mono fun e w' hh => ⟨hh.1, hh.2.symm⟩)))
      quiet_step (fail)
      quiet_step (fail)
      quiet_step (fail)
      refine wpQuiet_nil ?_
      intro _ hw'
      obtain ⟨nq, hw''⟩ := hw'
      subst hw''
      go_upto_block 0 with fail
      have B1 : Below w.heap.size w (w.drewN nq) := pw_below_drewN (Below.refl _ _) nq
      clear HU w1' d1 d2
      generalize w.drewN nq = W1 at *
      go_cut [6, 7] (fun v6 _ wx => ∃ L1 : List (Int × Int), LI w v6 L1 wx ∧ ((L1 = [] ∧ ∀ p, p < N → runN (hasB s) N p < m) ∨ (L1 = findE s N m ∧ L1.length = 1)))
      case first =>
        go_wp2_with fail
        go_loopg [6, 7] N (fun k v6 v7 wr => ∃ (i : Nat) (L1 : List (Int × Int)), v7 = .int .i64 (i : Int) ∧ i ≤ N ∧ LI w v6 L1 wr ∧ Aside0 ((L1 = [] ∧ ∀ p, p < i → runN (hasB s) N p < m) ∨ (L1 = findE s N m ∧ L1.length = 1)) ∧ k = N - i)
        case atStart => exact ⟨0, [], rfl, by omega, LI.nil B1, ⟨.inl ⟨rfl, fun p hp => by omega⟩⟩, rfl⟩
        case round =>
          clear B1
          obtain ⟨i, L1, rfl, hi, I, HX, rfl⟩ := hrel
          have R := HH.out.keepB I.below
          have c0r := R.c0
          rw [← HAG.out] at c0r
          rcases HX.out with ⟨rfl, hall⟩ | ⟨hL, hl1⟩
          · have HA := Lib.hid hall
            clear hall
            obtain ⟨o, c, rfl⟩ := I.form
            by_cases hil : i < N
            · have k1 : (i : Int) < (N : Int) := by omega
              have HRn := Lib.hid (refRun_calls wr base q g cap N (hasB s) R hN i hi)
              clear R
              by_cases hge : m ≤ runN (hasB s) N i
              · have HF := Lib.hid (find_there HS.out m1 hil hge HA.out)
                generalize runN (hasB s) N i = r at *
                have k2 : (m : Int) ≤ (r : Int) := by omega
                go_wp2_with (first
                  | (go_at_call 48; refine HRn.out.mono ?_; rintro e w' ⟨rfl, rfl⟩)
                  | (at_builtin; refine wpList_append_own _ rfl (.tmp 46) (.tmp 50) 39 rfl w.heap.size 43 i0 (.agg #[.int .i64 0, .int .i64 0]) 2 16 Try.underlying39 HI.out.1 HI.out.2.1 HI.out.2.2.1 HI.out.2.2.2 rfl (by decide) (.slice o 0 c) 0 (cellsE []) rfl (ownsRow_block I.own (fun k hk => Below.heap_alloc _ _ _ (I.own.lt k hk).2)) ⟨wr.heap.size, 0, none⟩ 1 1 (cellsE [((i : Int), (m : Int))]) rfl rfl (newE_at wr (i : Int) (m : Int)) (cellsE_one _) (by unfold maxLen; omega) (by omega) (by have := I.below.size; simp; omega) ?_; intro v' w' hown hgr hnil))
                have I2 := I.snoc hgr hown
                go_roundg (N - (i + 1))
                case measure => omega
                case rel => exact ⟨i + 1, _, by simp, by omega, I2, ⟨.inr ⟨HF.out.symm, rfl⟩⟩, rfl⟩
              · have HA2 := Lib.hid (show ∀ p, p < i + 1 → runN (hasB s) N p < m from fun p hp => by
                  by_cases e : p = i
                  · rw [e]; omega
                  · exact HA.out p (by omega))
                generalize runN (hasB s) N i = r at *
                have k2 : ¬ (m : Int) ≤ (r : Int) := by omega
                go_wp2_with (go_at_call 48; refine HRn.out.mono ?_; rintro e w' ⟨rfl, rfl⟩)
                go_roundg (N - (i + 1))
                case measure => omega
                case rel => exact ⟨i + 1, [], by simp, by omega, I, ⟨.inl ⟨rfl, HA2.out⟩⟩, rfl⟩
            · have k1 : ¬ (i : Int) < (N : Int) := by omega
              go_wp2
              go_meet
              exact ⟨[], I, .inl ⟨rfl, fun p hp => HA.out p (by omega)⟩⟩
          · obtain ⟨o, c, rfl⟩ := I.form
            have HLq := Lib.hid hL
            clear hL R
            rw [hl1]
            by_cases hil : i < N
            · have k1 : (i : Int) < (N : Int) := by omega
              go_wp2
              go_meet
              exact ⟨L1, by rw [hl1] at I; exact I, .inr ⟨HLq.out, hl1⟩⟩
            · have k1 : ¬ (i : Int) < (N : Int) := by omega
              go_wp2
              go_meet
              exact ⟨L1, by rw [hl1] at I; exact I, .inr ⟨HLq.out, hl1⟩⟩
      case rest =>
        clear B1
        obtain ⟨L1, I, HX⟩ := hcut
        obtain ⟨o, c, rfl⟩ := I.form
        generalize wc = W2 at *
        go_upto_if 55 with fail
        go_cut [8] (fun v8 wx => ∃ left : Nat, v8 = .int .i64 (left : Int) ∧ left ≤ N ∧ wx = W2 ∧ ((L1 = [] ∧ left = m ∧ ∀ p, p < N → runN (hasB s) N p < m) ∨ (L1 = findE s N m ∧ L1.length = 1 ∧ left = 0)))
        case first =>
          rcases HX with ⟨rfl, hall⟩ | ⟨hL, hl1⟩
          · have HA := Lib.hid hall
            clear hall
            go_wp2
            go_meet
            exact ⟨m, rfl, m2, rfl, .inl ⟨by first | rfl | trivial, rfl, HA.out⟩⟩
          · have HLq := Lib.hid hL
            clear hL
            have k1 : (0 : Int) < (L1.length : Int) := by omega
            go_wp2
            go_meet
            exact ⟨0, rfl, by omega, rfl, .inr ⟨HLq.out, hl1, rfl⟩⟩
        case rest =>
          clear HX
          obtain ⟨left, rfl, hle, rfl, HX⟩ := hcut
          go_upto_block 2 with fail
          go_cut [6, 8, 9] (fun v6 _ _ wx => ∃ L2 : List (Int × Int), LI w v6 L2 wx ∧ (if 8 < L2.length then [] else L2) = findE s N m ∧ 0 < L2.length)
          case first =>
            go_wp2_with fail
            go_loopg [6, 8, 9, 10] N (fun k v6 v8 v9 _ wr => ∃ (i left : Nat) (L2 : List (Int × Int)), v9 = .int .i64 (i : Int) ∧ v8 = .int .i64 (left : Int) ∧ i ≤ N ∧ left ≤ N ∧ LI w v6 L2 wr ∧ L2.length ≤ i + 1 ∧ Aside0 ((Sch s N m i left L2 ∧ ∀ p, p < N → runN (hasB s) N p < m) ∨ (left = 0 ∧ L2 = findE s N m ∧ L2.length = 1)) ∧ k = N - i)
            case atStart =>
              rcases HX with ⟨h0, hlm, hall⟩ | ⟨hL, hl1, hl0⟩
              · subst h0
                subst hlm
                exact ⟨0, _, [], rfl, rfl, by omega, hle, I, by simp, ⟨.inl ⟨Sch.start s N _, hall⟩⟩, rfl⟩
              · exact ⟨0, _, L1, rfl, rfl, by omega, hle, I, by omega, ⟨.inr ⟨hl0, hL, hl1⟩⟩, rfl⟩
            case round =>
              clear HX I
              obtain ⟨i, left, L2, rfl, rfl, hi, hlf, I, hLi, HX, rfl⟩ := hrel
              have R := HH.out.keepB I.below
              have c0r := R.c0
              rw [← HAG.out] at c0r
              obtain ⟨o, c, rfl⟩ := I.form
              have hend : (i = N ∨ left = 0) → (if 8 < L2.length then [] else L2) = findE s N m ∧ 0 < L2.length := fun hd => by
                rcases HX.out with ⟨hS, hall⟩ | ⟨_, hL, hl1⟩
                · exact sch_end HS.out m1 HCT.out hS hall hd
                · rw [hl1, if_neg (by omega)]
                  exact ⟨hL, by omega⟩
              by_cases hil : i < N
              · have k1 : (i : Int) < (N : Int) := by omega
                by_cases hlp : 0 < left
                · have k2 : (0 : Int) < (left : Int) := by omega
                  obtain ⟨hS, hall⟩ := HX.out.resolve_right (fun h => by omega)
                  have HRn := Lib.hid (refRun_calls wr base q g cap N (hasB s) R hN i hi)
                  have hrl := runN_le (hasB s) N i hi
                  have HAL := Lib.hid hall
                  clear R hall hend
                  by_cases hr0 : runN (hasB s) N i = 0
                  · have HS2 := Lib.hid (hS.skip hil hr0)
                    rw [hr0] at HRn
                    clear hS hrl hr0
                    go_wp2_with (go_at_call 48; refine HRn.out.mono ?_; rintro e w' ⟨rfl, rfl⟩)
                    go_roundg (N - (i + 1))
                    case measure => omega
                    case rel => exact ⟨i + 1, left, L2, by simp, by simp, by omega, by omega, I, by omega, ⟨.inl ⟨HS2.out, HAL.out⟩⟩, rfl⟩
                  · by_cases hrm : runN (hasB s) N i ≤ left
                    · have HS2 := Lib.hid (hS.run (k := runN (hasB s) N i) hil hlp (by omega) (by omega))
                      clear hS
                      generalize runN (hasB s) N i = r at *
                      have k4 : (r : Int) ≤ (left : Int) := by omega
                      have k5 : (0 : Int) < (r : Int) := by omega
                      go_wp2_with (first
                        | (go_at_call 48; refine HRn.out.mono ?_; rintro e w' ⟨rfl, rfl⟩)
                        | (at_builtin; refine wpList_append_own _ rfl (.tmp 76) (.tmp 80) 39 rfl w.heap.size 43 i0 (.agg #[.int .i64 0, .int .i64 0]) 2 16 Try.underlying39 HI.out.1 HI.out.2.1 HI.out.2.2.1 HI.out.2.2.2 rfl (by decide) (.slice o L2.length c) L2.length (cellsE L2) rfl (ownsRow_block I.own (fun k hk => Below.heap_alloc _ _ _ (I.own.lt k hk).2)) ⟨wr.heap.size, 0, none⟩ 1 1 (cellsE [((i : Int), (r : Int))]) rfl rfl (newE_at wr (i : Int) (r : Int)) (cellsE_one _) (by unfold maxLen; omega) (by omega) (by have := I.below.size; simp; omega) ?_; intro v' w' hown hgr hnil))
                      have I2 := I.snoc hgr hown
                      go_roundg (N - (i + r))
                      case measure => omega
                      case rel => exact ⟨i + r, left - r, _, by simp, congrArg (Value.int .i64) (by omega), by omega, by omega, I2, by simp; omega, ⟨.inl ⟨HS2.out, HAL.out⟩⟩, rfl⟩
                    · have HS2 := Lib.hid (hS.run (k := left) hil hlp (by omega) (by omega))
                      clear hS
                      generalize runN (hasB s) N i = r at *
                      have k4 : ¬ (r : Int) ≤ (left : Int) := by omega
                      have k6 : (left : Int) < (r : Int) := by omega
                      go_wp2_with (first
                        | (go_at_call 48; refine HRn.out.mono ?_; rintro e w' ⟨rfl, rfl⟩)
                        | (at_builtin; refine wpList_append_own _ rfl (.tmp 76) (.tmp 80) 39 rfl w.heap.size 43 i0 (.agg #[.int .i64 0, .int .i64 0]) 2 16 Try.underlying39 HI.out.1 HI.out.2.1 HI.out.2.2.1 HI.out.2.2.2 rfl (by decide) (.slice o L2.length c) L2.length (cellsE L2) rfl (ownsRow_block I.own (fun k hk => Below.heap_alloc _ _ _ (I.own.lt k hk).2)) ⟨wr.heap.size, 0, none⟩ 1 1 (cellsE [((i : Int), (left : Int))]) rfl rfl (newE_at wr (i : Int) (left : Int)) (cellsE_one _) (by unfold maxLen; omega) (by omega) (by have := I.below.size; simp; omega) ?_; intro v' w' hown hgr hnil))
                      have I2 := I.snoc hgr hown
                      go_roundg (N - (i + left))
                      case measure => omega
                      case rel => exact ⟨i + left, 0, _, by simp, by simp, by omega, by omega, I2, by simp; omega, ⟨.inl ⟨by have := HS2.out; rw [Nat.sub_self] at this; exact this, HAL.out⟩⟩, rfl⟩
                · have k2 : ¬ (0 : Int) < (left : Int) := by omega
                  have HEN := Lib.hid (hend (.inr (by omega)))
                  clear R hend
                  go_wp2
                  go_meet
                  exact ⟨L2, I, HEN.out⟩
              · have k1 : ¬ (i : Int) < (N : Int) := by omega
                have HEN := Lib.hid (hend (.inl (by omega)))
                clear R hend
                go_wp2
                go_meet
                exact ⟨L2, I, HEN.out⟩
          case rest =>
            clear HX I
            obtain ⟨L2, I, hLf, hLp⟩ := hcut
            obtain ⟨o, c, rfl⟩ := I.form
            have R := HH.out.keepB I.below
            generalize wc = W5 at *
            by_cases h8 : 8 < L2.length
            · have d8 : (8 : Int) < (L2.length : Int) := by omega
              rw [if_pos h8] at hLf
              have HE := Lib.hid (rtake_no (HTL.out.trans hLf.symm) R I.below)
              clear R hLf
              go_wp2
              go_ret2
              exact HE.out
            · have d8 : ¬ (8 : Int) < (L2.length : Int) := by omega
              rw [if_neg h8] at hLf
              have hTL : takeL s N (m : Int) = L2 := HTL.out.trans hLf.symm
              have HIN := Lib.hid (show ∀ x ∈ L2, inE N x from by rw [← hTL]; exact takeL_in s N _)
              have HTS := Lib.hid (show takeS s N (m : Int) = setE true L2 s from by unfold takeS; rw [hTL])
              have HT2 := Lib.hid hTL
              obtain ⟨al2, rfl, _⟩ := I.row.at' 0 _ (List.getElem?_eq_getElem hLp)
              have P0 : PI w base q g cap N (.slice (some al2) L2.length c) L2 (hasB s) W5 := ⟨R, I.row, .of I.below, fun a l c' e hl => by
                obtain ⟨e1, _, _⟩ := Value.slice.inj e
                obtain rfl := Option.some.inj e1
                exact (I.own.lt _ rfl).1, HH.out.hg.2⟩
              have hl8 : L2.length ≤ 8 := by omega
              clear R hLf hTL I
              go_wp2
              go_loopg [11, 12] L2.length (fun k v11 _ wr => ∃ kj : Nat, v11 = .int .i64 (kj : Int) ∧ kj ≤ L2.length ∧ PI w base q g cap N (.slice (some al2) L2.length c) L2 (covF L2 kj 0 0 (hasB s)) wr ∧ k = L2.length - kj)
              case atStart => exact ⟨0, rfl, by omega, P0.congr fun x _ => (covF_start L2 _ x).symm, rfl⟩
              case round =>
                clear P0
                obtain ⟨kj, rfl, hkj, I, rfl⟩ := hrel
                by_cases hkl : kj < L2.length
                · have k1' : (kj : Int) < (L2.length : Int) := by omega
                  have k2' : ((kj : Int)).toNat = kj := by omega
                  have k3' : (0 : Int) ≤ (kj : Int) := by omega
                  obtain ⟨y, hy⟩ : ∃ y, L2[kj]? = some y := ⟨_, List.getElem?_eq_getElem hkl⟩
                  have hin := HIN.out y (List.mem_of_getElem? hy)
                  unfold inE at hin
                  obtain ⟨f0, c0'⟩ := y
                  simp only at hin
                  obtain ⟨F, rfl⟩ := Int.eq_ofNat_of_zero_le hin.1
                  obtain ⟨C, rfl⟩ := Int.eq_ofNat_of_zero_le (show 0 ≤ c0' by omega)
                  have q4 : F + C ≤ N := by omega
                  have HY := Lib.hid hy
                  clear hin hy
                  go_wp2
                  go_loopg [12] C (fun k v12 wr5 => ∃ jj : Nat, v12 = .int .i64 (jj : Int) ∧ jj ≤ C ∧ PI w base q g cap N (.slice (some al2) L2.length c) L2 (covF L2 kj F jj (hasB s)) wr5 ∧ k = C - jj)
                  case atStart => exact ⟨0, rfl, by omega, I.congr fun x _ => covF_zero L2 kj 0 F _ x, rfl⟩
                  case round =>
                    clear I
                    obtain ⟨jj, rfl, hjj, I, rfl⟩ := hrel
                    obtain ⟨r0, r1⟩ := row_at I.row kj _ HY.out
                    simp only at r0 r1
                    by_cases hjl : jj < C
                    · have q5 : (jj : Int) < (C : Int) := by omega
                      have w3' : IntKind.i64.wrap ((F : Int) + (jj : Int)) = (F : Int) + (jj : Int) := by rw [IntKind.wrap_i64]; omega
                      have e6 : ((F : Int) + (jj : Int)).toNat = F + jj := by omega
                      have e7 : (0 : Int) ≤ (F : Int) + (jj : Int) := by omega
                      have e8 : (F : Int) + (jj : Int) < (N : Int) := by omega
                      have cq := I.rat.c0
                      rw [← HAG.out] at cq
                      go_wp2
                      refine QT.wp_region_draws_tail 12 (by kernel_rfl) (by kernel_rfl) ?_
                      simp only [List.take_succ_cons, List.take_zero, List.drop_succ_cons, List.drop_zero]
                      quiet_step (fail)
                      quiet_step (fail)
                      quiet_step (fail)
                      quiet_step (fail)
                      quiet_step (fail)
                      quiet_step (fail)
                      quiet_step (fail)
                      quiet_step (fail)
                      quiet_step (fail)
                      quiet_step (fail)
                      quiet_step (fail)
                      quiet_step (fail)
                      refine wpQuiet_nil ?_
                      intro w3 hw'
                      obtain ⟨nq2, hw''⟩ := hw'
                      have I3 := I.keepB (pw_below_drewN (Below.refl _ _) nq2)
                      rw [← hw''] at I3
                      clear hw'' I r0 r1 cq
                      have hb := I3.rat.bit (F + jj) (by omega)
                      have hfz := I3.rat.row.frozenAt (F + jj)
                      rw [← add_zero] at hfz
                      have I4 := I3.set (F + jj) true
                      rw [← HAG.out] at hb hfz I4
                      have HI4 := Lib.hid (I4.congr fun x _ => covF_step L2 kj F jj _ x)
                      clear I3 I4
                      go_wp2
                      go_roundg (C - (jj + 1))
                      case measure => omega
                      case rel => exact ⟨jj + 1, by simp, by omega, HI4.out, rfl⟩
                    · have q5 : ¬ (jj : Int) < (C : Int) := by omega
                      have I6 := I.congr (k := covF L2 (kj + 1) 0 0 (hasB s)) fun x _ => by rw [show jj = C from by omega]; exact covF_next HY.out _ x
                      clear I
                      go_wp2
                      go_roundg (L2.length - (kj + 1))
                      case measure => omega
                      case rel => exact ⟨kj + 1, by simp, by omega, I6, rfl⟩
                · have k1' : ¬ (kj : Int) < (L2.length : Int) := by omega
                  have I6 := I.congr (k := hasB (setE true L2 s)) fun x hx => by rw [covF_all L2 kj (by omega), (setE_bits true L2 HS.out HIN.out).at x hx]
                  clear I
                  go_wp2
                  go_ret2
                  exact ⟨_, by rw [HT2.out, decide_eq_true hLp]; rfl, by rw [HT2.out]; exact I6.row, I6.hv, by rw [HTS.out]; exact I6.rat, I6.only⟩
end Go.Proofs.Ytidnkckfkgaooaa.Al
