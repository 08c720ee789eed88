/- What bits.there, bits.Has, the iterator of bits.clear and bits.Run come to: for every text of at most 2 to 47 bytes. -/
import Derived.RangeFuncNested
import Derived.RangeFuncBound
import Derived.RangeFuncCalls
import Derived.RangeFuncLeaves
import Derived.Shelf.Abstract
import Derived.Shelf.RegionOpen
import Derived.WalkKit
import Derived.OwnWalkIn
import Derived.TacticsInMore
import Derived.LoopNIn
import Derived.LoopIn
import Derived.Laws.BitsAllLaws
import Derived.Lib.Hide
import Derived.Test.YtidnkckfkgaooaaWMore
import Derived.Test.YtidnkckfkgaooaaProg
namespace Go.Proofs.Ytidnkckfkgaooaa.Ext
open Go.RowKit Go.Shelf Go.Proofs Go.Proofs.YtidnkckfkgaooaaW.PrintWords Go.Proofs.YtidnkckfkgaooaaW.PrintMore
attribute [local go_sem] Oper.semAt_some max2_int max_two

/-- Whether there is a bit. -/
def thereB (s : ByteArray) (i : Nat) : Bool := decide (i < 8 * s.size)
/-- Whether a bit is set. -/
def hasB (s : ByteArray) (i : Nat) : Bool := decide (i < 8 * s.size) && decide (bt s ((i / 8 : Nat) : Int) / 2 ^ (i % 8) % 2 = 1)

theorem there_calls (s : ByteArray) (i : Nat) (w : World) (hi : i ≤ 9223372036854775807) :
    Calls Try.prog 42 #[.string s, .int .i64 i] w fun e w' => e = .returned (.bool (thereB s i)) ∧ w = w' := by
  have h0 : decide (0 ≤ (i : Int)) = true := by simp
  have hq : 0 ≤ (i : Int) := by omega
  have hq2 : (i : Int) ≤ 9223372036854775807 := by omega
  go_enter Try.func42, Try.ntmps42
  go_wp2
  go_ret
  refine ⟨?_, rfl⟩
  have e : decide ((i : Int) / 8 < (s.size : Int)) = thereB s i := by
    unfold thereB
    rw [decide_eq_decide]
    omega
  rw [e]
  rfl

theorem there_sub {s : ByteArray} {i : Nat} (h : thereB s i = true) : (i : Int) / 8 < (s.size : Int) := by
  unfold thereB at h
  rw [decide_eq_true_eq] at h
  omega

theorem has_calls (s : ByteArray) (i : Nat) (w : World) (hs : s.size ≤ 140737488351232) (hi : i ≤ 9223372036854775807) :
    Calls Try.prog 17 #[.string s, .int .i64 i] w fun e w' => e = .returned (.bool (hasB s i)) ∧ w = w' := by
  have hq : 0 ≤ (i : Int) := by omega
  have hq2 : (i : Int) ≤ 9223372036854775807 := by omega
  cases hc : thereB s i with
  | false =>
    have H := there_calls s i w hi
    rw [hc] at H
    have hb : hasB s i = false := by
      unfold hasB
      unfold thereB at hc
      rw [hc]
      rfl
    go_enter Try.func17, Try.ntmps17
    go_wp2_with (go_at_call 42; refine H.mono ?_; rintro e w' ⟨rfl, rfl⟩)
    go_ret
    rw [hb]
    exact ⟨rfl, rfl⟩
  | true =>
    have H := there_calls s i w hi
    rw [hc] at H
    have q1 : (i : Int) / 8 < (s.size : Int) := there_sub hc
    have q0 : 0 ≤ (i : Int) / 8 := by omega
    have hx := bt_at s ((i : Int) / 8)
    go_enter Try.func17, Try.ntmps17
    go_wp2_with (go_at_call 42; refine H.mono ?_; rintro e w' ⟨rfl, rfl⟩)
    go_ret
    refine ⟨?_, rfl⟩
    have p0 := bt_range s ((i : Int) / 8)
    have d0 : (0 : Int) < 2 ^ (i % 8) := Int.pow_pos (by decide)
    have d1 : 0 ≤ bt s ((i : Int) / 8) / 2 ^ (i % 8) := Int.ediv_nonneg p0.1 (by omega)
    have d2 : bt s ((i : Int) / 8) / 2 ^ (i % 8) ≤ bt s ((i : Int) / 8) := Int.ediv_le_self _ p0.1
    have e : (Go.bits BinOp.and IntKind.u8 (bt s ((i : Int) / 8) / 2 ^ (i % 8)) 1 == 1) = hasB s i := by
      rw [u8_and _ 1 d1 (by omega) (by decide) (by decide), show (1 : Int).toNat = 1 from rfl, nat_mask1]
      unfold hasB
      unfold thereB at hc
      rw [hc, Bool.true_and, show ((i / 8 : Nat) : Int) = (i : Int) / 8 from by omega]
      rw [Bool.eq_iff_iff, beq_iff_eq, decide_eq_true_eq]
      omega
    show Ending.returned (Value.bool (Go.bits BinOp.and IntKind.u8 (bt s ((i : Int) / 8) / 2 ^ (i % 8)) 1 == 1)) = _
    rw [e]

/-- How many bits from one on are there, and clear (with rounds enough). -/
def clearLen (s : ByteArray) : Nat → Nat → Nat
  | 0, _ => 0
  | f + 1, i => if thereB s i = true ∧ hasB s i = false then clearLen s f (i + 1) + 1 else 0

/-- The runs of clear bits from one on: where each begins, how long it is. -/
def runs (s : ByteArray) : Nat → Nat → List (Int × Int)
  | 0, _ => []
  | f + 1, i => if thereB s i = true then (if 0 < clearLen s (8 * s.size) i then [((i : Int), (clearLen s (8 * s.size) i : Int))] else []) ++ runs s f (i + clearLen s (8 * s.size) i + 1) else []

/-- With rounds enough the number of rounds is nothing to it. -/
theorem clearLen_more (s : ByteArray) : ∀ (f i : Nat), 8 * s.size ≤ i + f → ∀ g, 8 * s.size ≤ i + g → clearLen s f i = clearLen s g i := by
  intro f
  induction f with
  | zero =>
    intro i h g _
    cases g with
    | zero => rfl
    | succ g =>
      have : thereB s i = false := by unfold thereB; rw [decide_eq_false_iff_not]; omega
      simp [clearLen, this]
  | succ f ih =>
    intro i h g hg
    cases g with
    | zero =>
      have : thereB s i = false := by unfold thereB; rw [decide_eq_false_iff_not]; omega
      simp [clearLen, this]
    | succ g =>
      simp only [clearLen]
      rw [ih (i + 1) (by omega) g (by omega)]

theorem clearLen_step {s : ByteArray} {i : Nat} (h : thereB s i = true) (h1 : hasB s i = false) : clearLen s (8 * s.size) i = clearLen s (8 * s.size) (i + 1) + 1 := by
  have h' := h
  unfold thereB at h'
  rw [decide_eq_true_eq] at h'
  obtain ⟨n, hn⟩ : ∃ n, 8 * s.size = n + 1 := ⟨8 * s.size - 1, by omega⟩
  have e1 : clearLen s (8 * s.size) i = clearLen s n (i + 1) + 1 := by
    rw [hn]
    simp only [clearLen]
    rw [if_pos ⟨h, h1⟩]
  rw [e1, clearLen_more s n (i + 1) (by omega) (8 * s.size) (by omega)]
theorem clearLen_stop {s : ByteArray} {i : Nat} (h : thereB s i = false ∨ hasB s i = true) : clearLen s (8 * s.size) i = 0 := by
  cases e : 8 * s.size with
  | zero => rfl
  | succ n =>
    simp only [clearLen]
    rw [if_neg]
    rintro ⟨h1, h2⟩
    rcases h with h | h
    · rw [h] at h1; cases h1
    · rw [h] at h2; cases h2
theorem clearLen_le (s : ByteArray) : ∀ (f i : Nat), clearLen s f i ≤ 8 * s.size - i := by
  intro f
  induction f with
  | zero => intro i; simp [clearLen]
  | succ f ih =>
    intro i
    simp only [clearLen]
    split
    · rename_i h
      have h' := h.1
      unfold thereB at h'
      rw [decide_eq_true_eq] at h'
      have := ih (i + 1)
      omega
    · omega

/-- All that the iterator tells from a place on. -/
def allRuns (s : ByteArray) (i : Nat) : List (Int × Int) := runs s (8 * s.size + 1) i
theorem runs_more (s : ByteArray) : ∀ (f i : Nat), 8 * s.size ≤ i + f → ∀ g, 8 * s.size ≤ i + g → runs s f i = runs s g i := by
  intro f
  induction f with
  | zero =>
    intro i h g _
    cases g with
    | zero => rfl
    | succ g =>
      have : thereB s i = false := by unfold thereB; rw [decide_eq_false_iff_not]; omega
      simp [runs, this]
  | succ f ih =>
    intro i h g hg
    cases g with
    | zero =>
      have : thereB s i = false := by unfold thereB; rw [decide_eq_false_iff_not]; omega
      simp [runs, this]
    | succ g =>
      simp only [runs]
      rw [ih (i + clearLen s (8 * s.size) i + 1) (by omega) g (by omega)]
theorem allRuns_step {s : ByteArray} {i : Nat} (h : thereB s i = true) :
    allRuns s i = (if 0 < clearLen s (8 * s.size) i then [((i : Int), (clearLen s (8 * s.size) i : Int))] else []) ++ allRuns s (i + clearLen s (8 * s.size) i + 1) := by
  unfold allRuns
  have e : runs s (8 * s.size + 1) i = (if 0 < clearLen s (8 * s.size) i then [((i : Int), (clearLen s (8 * s.size) i : Int))] else []) ++ runs s (8 * s.size) (i + clearLen s (8 * s.size) i + 1) := by
    simp only [runs]
    rw [if_pos h]
  rw [e, runs_more s (8 * s.size) _ (by omega) (8 * s.size + 1) (by omega)]
theorem allRuns_stop {s : ByteArray} {i : Nat} (h : thereB s i = false) : allRuns s i = [] := by
  unfold allRuns
  simp only [runs]
  rw [if_neg (by rw [h]; simp)]

abbrev encs (p : Int × Int) : Array Value := #[.int .i64 p.1, .int .i64 p.2]

set_option maxRecDepth 100000 in
set_option maxHeartbeats 2000000 in
/-- The iterator of bits.clear, for every loop body that keeps what lay below n₀. -/
theorem clear1_in (n : Nat) (hn : 1 ≤ n) (l Bs Bf n₀ : Nat) (s : ByteArray) (from' : Int) (hs : s.size ≤ 140737488351232) (hf0 : -9223372036854775808 ≤ from') (hf1 : from' ≤ 9223372036854775807) (hBs : Bs < n₀) (J Jx : List (Int × Int) → World → Prop)
    (hY : ∀ pre x W, J pre W → pre.length < (allRuns s from'.toNat).length → YieldAt Fence.wide (n - 1) Try.prog l (encs x) W fun e W' =>
      (e = .returned (.bool true) ∧ J (pre ++ [x]) W' ∧ Below n₀ W W') ∨ (e = .returned (.bool false) ∧ Jx (pre ++ [x]) W'))
    (W : World) (hcs : W.cell? ⟨Bs, 0, none⟩ = some (.string s)) (hcf : W.cell? ⟨Bf, 0, none⟩ = some (.int .i64 from')) (h0 : J [] W) :
    CallsIn Fence.wide n Try.prog 49 #[.func (.yield l) #[] #[], .pointer (some ⟨Bf, 0, none⟩), .pointer (some ⟨Bs, 0, none⟩)] W fun e W' => (∃ v, e = .returned v) ∧
      ((∃ ys, ys = allRuns s from'.toNat ∧ J ys W') ∨ (∃ pre, pre <+: allRuns s from'.toNat ∧ Jx pre W')) := by
  refine callsIn_of_wp Try.func49 rfl trivial ?_ rfl
  simp only [Try.ntmps49, List.size_toArray, List.length_cons, List.length_nil, Nat.reduceAdd, Nat.reduceSub, Array.replicate_succ, Array.replicate_zero, List.push_toArray, List.append_toArray, List.nil_append, List.cons_append]
  obtain ⟨k0, hk0, hk1, hk2⟩ : ∃ k0 : Nat, (if from' < 0 then 0 else from') = (k0 : Int) ∧ from'.toNat = k0 ∧ k0 ≤ 9223372036854775807 := ⟨from'.toNat, by split <;> omega, rfl, by omega⟩
  rw [hk1] at hY ⊢
  clear hk1 hf0 hf1
  gi_wp2
  clear hk0
  gi_loopw [4] (fun i wr => ∃ (pre : List (Int × Int)) (k : Nat), i = .int .i64 k ∧ k ≤ 9223372036854775807 ∧ Hid (allRuns s k0 = pre ++ allRuns s k) ∧ J pre wr ∧ Below n₀ W wr) (fun i _ => 8 * s.size + 1 - (intOf i).toNat)
  case atStart => exact ⟨[], k0, rfl, hk2, Lib.hid rfl, h0, Below.refl _ _⟩
  case round =>
    obtain ⟨pre, k, rfl, hk, Hruns, hJ, hB⟩ := hrel
    have hs1 := (hB.cell (p := ⟨Bs, 0, none⟩) hBs).trans hcs
    cases hc : thereB s k with
    | false =>
      have HT := fun w => there_calls s k w hk
      simp only [hc] at HT
      have hfin : allRuns s k0 = pre := by rw [Hruns.out, allRuns_stop hc, List.append_nil]
      have Hfin := Lib.hid hfin
      clear hfin
      gi_wp2_with (refine ⟨trivial, ?_⟩; gi_at_call 42; refine (callsIn_wide.2 (HT _)).mono ?_; rintro e w' ⟨rfl, rfl⟩)
      go_end0
      exact ⟨⟨_, rfl⟩, .inl ⟨pre, Hfin.out.symm, hJ⟩⟩
    | true =>
      have HT := fun w => there_calls s k w hk
      simp only [hc] at HT
      have Hstep := Lib.hid (allRuns_step hc)
      have kb : k < 8 * s.size := by unfold thereB at hc; rwa [decide_eq_true_eq] at hc
      have Hc := Lib.hid hc
      clear hc
      gi_wp2_with (refine ⟨trivial, ?_⟩; gi_at_call 42; refine (callsIn_wide.2 (HT _)).mono ?_; rintro e w' ⟨rfl, rfl⟩)
      clear HT
      gi_loop [5] (fun n => ∃ c : Nat, n = .int .i64 c ∧ k + c ≤ 8 * s.size ∧ Hid (clearLen s (8 * s.size) k = c + clearLen s (8 * s.size) (k + c))) (fun n => 8 * s.size - k - (intOf n).toNat)
      case atStart => exact ⟨0, rfl, by omega, Lib.hid (by simp)⟩
      case round =>
        obtain ⟨c, rfl, hcb, Hcl⟩ := hrel
        have w1 : IntKind.i64.wrap ((k : Int) + (c : Int)) = ((k + c : Nat) : Int) := by rw [IntKind.wrap_i64]; omega
        by_cases hgo : thereB s (k + c) = true ∧ hasB s (k + c) = false
        · have HT := fun w => there_calls s (k + c) w (by omega)
          have HH := fun w => has_calls s (k + c) w hs (by omega)
          simp only [hgo.1] at HT
          simp only [hgo.2] at HH
          have kc : k + c < 8 * s.size := by have h := hgo.1; unfold thereB at h; rwa [decide_eq_true_eq] at h
          have Hs := Lib.hid (clearLen_step hgo.1 hgo.2)
          clear hgo
          gi_wp2_with (first | (refine ⟨trivial, ?_⟩; gi_at_call 42; refine (callsIn_wide.2 (HT _)).mono ?_; rintro e w' ⟨rfl, rfl⟩) | (refine ⟨trivial, ?_⟩; gi_at_call 17; refine (callsIn_wide.2 (HH _)).mono ?_; rintro e w' ⟨rfl, rfl⟩))
          go_round
          case rel => exact ⟨c + 1, by go_num, by omega, Lib.hid (by rw [Hcl.out, Hs.out, Nat.add_assoc k c 1]; omega)⟩
          case measure => simp [intOf]; omega
        · have hst : thereB s (k + c) = false ∨ (thereB s (k + c) = true ∧ hasB s (k + c) = true) := by
            cases h1 : thereB s (k + c) with
            | false => exact .inl rfl
            | true =>
              cases h2 : hasB s (k + c) with
              | true => exact .inr ⟨rfl, rfl⟩
              | false => exact absurd ⟨h1, h2⟩ hgo
          clear hgo
          have hcl : clearLen s (8 * s.size) k = c := by
            rw [Hcl.out, clearLen_stop (by rcases hst with h | h; exact .inl h; exact .inr h.2)]; omega
          have hstep := Hstep.out
          rw [hcl] at hstep
          clear hcl
          have w2 : IntKind.i64.wrap ((c : Int) + 1) = ((c + 1 : Nat) : Int) := by rw [IntKind.wrap_i64]; omega
          have w3 : IntKind.i64.wrap ((k : Int) + ((c + 1 : Nat) : Int)) = ((k + c + 1 : Nat) : Int) := by rw [IntKind.wrap_i64]; omega
          by_cases hz : 0 < c
          · have hsplit : allRuns s k0 = pre ++ [((k : Int), (c : Int))] ++ allRuns s (k + c + 1) := by rw [Hruns.out, hstep, if_pos hz, List.append_assoc]
            have hlen : pre.length < (allRuns s k0).length := by rw [hsplit]; simp
            obtain ⟨fn, tmps, assign, body, hy, hR⟩ := hY pre ((k : Int), (c : Int)) wr hJ hlen
            dsimp only [encs] at hy
            have Hsplit := Lib.hid hsplit
            clear hsplit hlen hstep Hstep Hruns Hcl Hc
            have hz' : 0 < (c : Int) := by omega
            rcases hst with h1 | ⟨h1, h2⟩
            · have HT := fun w => there_calls s (k + c) w (by omega)
              simp only [h1] at HT
              clear h1
              gi_wp2_with (first | (refine ⟨trivial, ?_⟩; gi_at_call 42; refine (callsIn_wide.2 (HT _)).mono ?_; rintro e w' ⟨rfl, rfl⟩))
              refine ⟨trivial, ?_⟩
              gi_wp2
              refine hR.mono ?_
              rintro e W3 (⟨rfl, hJ3, hk3⟩ | ⟨rfl, hJx3⟩)
              · gi_wp2
                go_roundw
                case rel => exact ⟨pre ++ [((k : Int), (c : Int))], k + c + 1, by go_num, by omega, Hsplit, hJ3, hB.trans hk3⟩
                case measure => simp [intOf]; omega
              · gi_wp2
                refine bodyPost_ret (results_none rfl _ _ _) rfl ?_
                exact ⟨⟨_, rfl⟩, .inr ⟨pre ++ [((k : Int), (c : Int))], ⟨_, Hsplit.out.symm⟩, hJx3⟩⟩
            · have HT := fun w => there_calls s (k + c) w (by omega)
              have HH := fun w => has_calls s (k + c) w hs (by omega)
              simp only [h1] at HT
              simp only [h2] at HH
              clear h1 h2
              gi_wp2_with (first | (refine ⟨trivial, ?_⟩; gi_at_call 42; refine (callsIn_wide.2 (HT _)).mono ?_; rintro e w' ⟨rfl, rfl⟩) | (refine ⟨trivial, ?_⟩; gi_at_call 17; refine (callsIn_wide.2 (HH _)).mono ?_; rintro e w' ⟨rfl, rfl⟩))
              refine hR.mono ?_
              rintro e W3 (⟨rfl, hJ3, hk3⟩ | ⟨rfl, hJx3⟩)
              · gi_wp2
                go_roundw
                case rel => exact ⟨pre ++ [((k : Int), (c : Int))], k + c + 1, by go_num, by omega, Hsplit, hJ3, hB.trans hk3⟩
                case measure => simp [intOf]; omega
              · gi_wp2
                refine bodyPost_ret (results_none rfl _ _ _) rfl ?_
                exact ⟨⟨_, rfl⟩, .inr ⟨pre ++ [((k : Int), (c : Int))], ⟨_, Hsplit.out.symm⟩, hJx3⟩⟩
          · obtain rfl : c = 0 := by omega
            have Hsplit := Lib.hid (show allRuns s k0 = pre ++ allRuns s (k + 0 + 1) by rw [Hruns.out, hstep, if_neg hz, List.nil_append])
            clear hstep Hstep Hruns Hcl Hc hz
            rcases hst with h1 | ⟨h1, h2⟩
            · exfalso
              unfold thereB at h1
              rw [decide_eq_false_iff_not] at h1
              omega
            · have HT := fun w => there_calls s (k + 0) w (by omega)
              have HH := fun w => has_calls s (k + 0) w hs (by omega)
              simp only [h1] at HT
              simp only [h2] at HH
              clear h1 h2
              gi_wp2_with (first | (refine ⟨trivial, ?_⟩; gi_at_call 42; refine (callsIn_wide.2 (HT _)).mono ?_; rintro e w' ⟨rfl, rfl⟩) | (refine ⟨trivial, ?_⟩; gi_at_call 17; refine (callsIn_wide.2 (HH _)).mono ?_; rintro e w' ⟨rfl, rfl⟩))
              refine ⟨fun _ h => (by cases h), ?_⟩
              gi_wp2
              go_roundw
              case rel => exact ⟨pre, k + 0 + 1, by go_num, by omega, Hsplit, hJ, hB⟩
              case measure => simp [intOf]; omega

end Go.Proofs.Ytidnkckfkgaooaa.Ext
