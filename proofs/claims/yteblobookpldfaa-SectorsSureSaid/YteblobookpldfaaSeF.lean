/- A disk: is the failure due; taken up. -/
import Derived.Test.YteblobookpldfaaSeE
namespace Go.Proofs.Yteblobookpldfaa.Se
open Go.RowKit Go.Shelf Go.Proofs

/-- What a call on a disk leaves: the disk d', of what there was only the disk's own turned. -/
def DEnd (w : World) (F : Nat → Prop) (p : Nat) (d' : Dk) (w' : World) : Prop := ∃ sv lv kv, DAt w' (grow F w w') p sv lv kv d' ∧ OnlyF F w w'
theorem DAt.end {w w' : World} {F : Nat → Prop} {p : Nat} {sv lv kv : Value} {d : Dk} (h : DAt w' F p sv lv kv d) (hO : OnlyF F w w') : DEnd w F p d w' := ⟨sv, lv, kv, h.wider fun _ hx => .inl hx, hO⟩
theorem DEnd.refl {w : World} {F : Nat → Prop} {p : Nat} {sv lv kv : Value} {d : Dk} (h : DAt w F p sv lv kv d) : DEnd w F p d w := h.end (OnlyF.refl _ _)
def dueD (d : Dk) : Dk := if d.fails = true then { d with left := d.left - 1 } else d
def isDue (d : Dk) : Bool := d.fails && decide (d.left - 1 < 0)
/-- The failure that is set lies ahead, and not far. -/
def Soon (d : Dk) : Prop := d.fails = true → 0 ≤ d.left ∧ d.left ≤ 1000000
set_option maxHeartbeats 2000000 in
theorem due_calls {w : World} {F : Nat → Prop} {p : Nat} {sv lv kv : Value} {d : Dk} (h : DAt w F p sv lv kv d) (hs : Soon d) : Calls Try.prog 34 #[.pointer (some ⟨p, 0, none⟩)] w fun e w' =>
    e = .returned (.bool (isDue d)) ∧ DAt w' F p sv lv kv (dueD d) ∧ OnlyF F w w' := by
  have c4 := h.c4
  have c5 := h.c5
  have f5 := h.fz 5
  cases hf : d.fails
  · rw [hf] at c4
    have e1 : isDue d = false := by unfold isDue; rw [hf]; rfl
    have e2 : dueD d = d := by unfold dueD; rw [hf]; rfl
    rw [e1, e2]
    have HD := Lib.hid h
    clear h
    go_enter Try.func34, Try.ntmps34
    go_wp2
    go_ret
    exact ⟨rfl, HD.out, OnlyF.refl _ _⟩
  · rw [hf] at c4
    obtain ⟨l0, l1⟩ := hs hf
    obtain ⟨x, hx⟩ : ∃ x, x = d.left := ⟨_, rfl⟩
    have HD := Lib.hid (h.putHead 5 (.int .i64 (x - 1)) (dueD d) (by unfold dueD; rw [if_pos hf]) (by unfold dueD; rw [if_pos hf]) (by unfold dueD; rw [if_pos hf]) (by
      unfold dueD
      rw [if_pos hf, hx]
      rfl))
    have HO := Lib.hid ((OnlyF.refl F w).set h.fp 5 (.int .i64 (x - 1)))
    have HE := Lib.hid (show isDue d = decide (x - 1 < 0) by unfold isDue; rw [hf, hx]; rfl)
    rw [← hx] at c5 l0 l1
    have hw1 : IntKind.i64.wrap (x - 1) = x - 1 := by rw [IntKind.wrap_i64]; omega
    clear h hx
    go_enter Try.func34, Try.ntmps34
    go_wp2
    go_ret
    exact ⟨by rw [HE.out]; first | rfl | simp, HD.out, HO.out⟩
def startD (d : Dk) : Dk := { d with down := false, starts := wrap64 (d.starts + 1) }
set_option maxHeartbeats 2000000 in
theorem start_down {w : World} {F : Nat → Prop} {p : Nat} {sv lv kv : Value} {d : Dk} (h : DAt w F p sv lv kv d) (hc : chk d = 61) : Calls Try.prog 17 #[.pointer (some ⟨p, 0, none⟩)] w fun e w' =>
    e = .returned (.int .i64 0) ∧ DAt w' F p sv lv kv (startD d) ∧ OnlyF F w w' := by
  have HC := Lib.hid (check_calls h)
  rw [hc] at HC
  have c2 := h.c2
  have c3 := h.c3
  have f2 := h.fz 2
  have f3 := h.fz 3
  have h1 := h.putHead 2 (.bool false) { d with down := false } rfl rfl rfl rfl
  have h2 := h1.putHead 3 (.int .i64 (wrap64 (d.starts + 1))) (startD d) rfl rfl rfl rfl
  have HD := Lib.hid h2
  have HO := Lib.hid (((OnlyF.refl F w).set h.fp 2 (.bool false)).set h.fp 3 (.int .i64 (wrap64 (d.starts + 1))))
  clear h h1 h2
  generalize startD d = d' at HD ⊢
  go_enter Try.func17, Try.ntmps17
  go_wp2_with (go_at_call 32; refine HC.out.mono ?_; rintro e w' ⟨rfl, rfl⟩)
  go_ret
  exact ⟨rfl, HD.out, HO.out⟩
set_option maxHeartbeats 2000000 in
theorem start_up {w : World} {F : Nat → Prop} {p : Nat} {sv lv kv : Value} {d : Dk} (h : DAt w F p sv lv kv d) (hc : chk d = 0) : Calls Try.prog 17 #[.pointer (some ⟨p, 0, none⟩)] w fun e w' =>
    e = .returned (.int .i64 2) ∧ w = w' := by
  have HC := Lib.hid (check_calls h)
  rw [hc] at HC
  go_enter Try.func17, Try.ntmps17
  go_wp2_with (go_at_call 32; refine HC.out.mono ?_; rintro e w' ⟨rfl, rfl⟩)
  go_ret
  exact ⟨rfl, rfl⟩
end Go.Proofs.Yteblobookpldfaa.Se
