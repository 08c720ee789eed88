/- Has a disk what the document's has? -/
import Derived.Test.YteblobookpldfaaSf2
namespace Go.Proofs.Yteblobookpldfaa.Se
open Go.RowKit Go.Shelf Go.Proofs
attribute [local go_sem] Oper.semAt_some
attribute [local irreducible] Go.wpQuiet

theorem same_of {P : Program} {f : FuncId} {args : Array Value} {w : World} {v : Value} (h : Calls P f args w fun e w' => e = .returned v ∧ w = w') {n : Nat} {w0 : World} (hw : w = w0.drewN n) : Calls P f args (w0.drewN n) fun e w'' => e = .returned v ∧ ∃ m, w'' = w0.drewN m := by
  subst hw
  exact h.mono fun _ _ ⟨he, hm⟩ => ⟨he, n, hm.symm⟩
set_option maxRecDepth 100000 in
set_option maxHeartbeats 8000000 in
theorem same_calls {B p q m : Nat} {F G : Nat → Prop} {W : World} {d : Dk} {r : Rk} (h : DR B F G p q d r W) (P : Pair m d r) (hm : m ≤ 1000000) :
    Calls Try.prog 12 #[.pointer (some ⟨p, 0, none⟩), .pointer (some ⟨q, 0, none⟩)] W fun e W' => e = .returned (.bool true) ∧ Below W.heap.size W W' := by
  have H1 : Hid (∀ n, Calls Try.prog 19 #[.pointer (some ⟨p, 0, none⟩)] (W.drewN n) fun e w'' => e = .returned (.int .i64 (r.sure.length : Int)) ∧ ∃ m, w'' = W.drewN m) := Lib.hid (fun n => by
    have := size_u (h.1.keepB (bl_drewN (Below.refl _ _) n))
    rw [P.sure] at this
    exact same_of this rfl)
  have H2 : Hid (∀ n, Calls Try.prog 20 #[.pointer (some ⟨p, 0, none⟩)] (W.drewN n) fun e w'' => e = .returned (.int .i64 (r.loose.length : Int)) ∧ ∃ m, w'' = W.drewN m) := Lib.hid (fun n => by
    have := loose_u (h.1.keepB (bl_drewN (Below.refl _ _) n))
    rw [P.loose] at this
    exact same_of this rfl)
  have H3 : Hid (∀ n, Calls Try.prog 21 #[.pointer (some ⟨p, 0, none⟩)] (W.drewN n) fun e w'' => e = .returned (.bool (!r.down)) ∧ ∃ m, w'' = W.drewN m) := Lib.hid (fun n => by
    have := up_u (h.1.keepB (bl_drewN (Below.refl _ _) n)) P.ok
    rw [P.down] at this
    exact same_of this rfl)
  have H4 : Hid (∀ n, Calls Try.prog 22 #[.pointer (some ⟨p, 0, none⟩)] (W.drewN n) fun e w'' => e = .returned (.int .i64 r.starts) ∧ ∃ m, w'' = W.drewN m) := Lib.hid (fun n => by
    have := starts_u (h.1.keepB (bl_drewN (Below.refl _ _) n))
    rw [P.starts] at this
    exact same_of this rfl)
  have HH := Lib.hid h
  obtain ⟨_, ⟨⟨sv, lv, kv, a⟩, _⟩, _⟩ := h
  obtain ⟨os, cs, rfl⟩ := ownsRow_form a.su
  obtain ⟨ol, cl, rfl⟩ := ownsRow_form a.lo
  have c0 := a.c0
  have c1 := a.c1
  have c2 := a.c2
  have c3 := a.c3
  have HP := Lib.hid P
  have hmax := P.max
  have HA := Lib.hid a
  clear a P
  obtain ⟨db, hdb⟩ : ∃ db, db = r.down := ⟨_, rfl⟩
  rw [← hdb] at c2 H3
  clear hdb
  have n1 : (r.starts != r.starts) = false := by simp
  have n2 : ((r.sure.length : Int) != (r.sure.length : Int)) = false := by simp
  have n3 : ((r.loose.length : Int) != (r.loose.length : Int)) = false := by simp
  have n4 : ((!db) == db) = false := by cases db <;> rfl
  go_enter Try.func12, Try.ntmps12
  go_upto_region 1 with fail
  refine wp_region_quiet_lit (by kernel_rfl) (by kernel_rfl) ?_
  repeat (quiet_step (first
    | (go_at_call 19; exact H1.out _)
    | (go_at_call 20; exact H2.out _)
    | (go_at_call 21; exact H3.out _)
    | (go_at_call 22; exact H4.out _)))
  refine wpQuiet_nil ?_
  intro _ hw'
  obtain ⟨nq, hw''⟩ := hw'
  subst hw''
  have hB0 : Below W.heap.size W (W.drewN nq) := bl_drewN (Below.refl _ _) nq
  clear c0 c1 c2 c3 H1 H2 H3 H4
  generalize W.drewN nq = W0 at *
  go_wp2
  go_loopg [5, 6, 7, 8, 9] (r.sure.length + 2) (fun k v5 _ _ _ _ wr => ∃ i : Nat, v5 = .int .i64 ((i : Int) - 1) ∧ i ≤ r.sure.length + 2 ∧ Below W.heap.size W wr ∧ k = r.sure.length + 2 - i)
  case atStart => exact ⟨0, rfl, by omega, hB0, rfl⟩
  case round =>
    clear hB0
    obtain ⟨i, rfl, hi, hB, rfl⟩ := hrel
    have c0 := (HA.out.keepB hB).c0
    by_cases hil : i < r.sure.length + 2
    · have q1 : (i : Int) - 1 ≤ (r.sure.length : Int) := by omega
      have e := pair_read HP.out ((i : Int) - 1)
      have C1 := Lib.hid (read_u (HH.out.1.keepB hB) HP.out.ok hm ((i : Int) - 1))
      have C2 := Lib.hid (fun W2 (hW : Below wr.heap.size wr W2) => read_r ((HH.out.2.1.keepB hB).keepB hW) ((i : Int) - 1))
      rw [e] at C1
      have HA2 := Lib.hid (fun W2 (hW : Below wr.heap.size wr W2) => ((HA.out.keepB hB).keepB hW).c0)
      generalize (ropRead ((i : Int) - 1) r).1 = rs at *
      generalize (ropRead ((i : Int) - 1) r).2 = rz at *
      clear e
      have n5 : (rz != rz) = false := by simp
      have hw : IntKind.i64.wrap ((i : Int) - 1 + 1) = (i : Int) := by rw [IntKind.wrap_i64]; omega
      have hw2 : wrap64 ((i : Int) - 1 + 1) = (i : Int) := by unfold wrap64; omega
      go_wp2_with (first
        | (go_at_call 13; with_reducible refine C1.out.mono ?_; rintro e W2 ⟨rfl, hB2⟩)
        | (go_at_call 31; with_reducible refine (C2.out _ hB2).mono ?_; rintro e W3 ⟨rfl, rfl⟩))
      go_roundg (r.sure.length + 2 - (i + 1))
      case measure => omega
      case rel => exact ⟨i + 1, by simp, by omega, hB.trans (hB2.mono hB.size), rfl⟩
    · have q1 : ¬ (i : Int) - 1 ≤ (r.sure.length : Int) := by omega
      go_wp2
      (try go_ret)
      exact ⟨rfl, hB⟩
end Go.Proofs.Yteblobookpldfaa.Se
