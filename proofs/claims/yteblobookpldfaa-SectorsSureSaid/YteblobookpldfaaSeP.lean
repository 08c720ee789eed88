/- Each act on a disk, in one form. -/
import Derived.Test.YteblobookpldfaaSeO
namespace Go.Proofs.Yteblobookpldfaa.Se
open Go.RowKit Go.Shelf Go.Proofs

set_option maxHeartbeats 2000000 in
theorem fail_down {w : World} {F : Nat → Prop} {p : Nat} {sv lv kv : Value} {d : Dk} (h : DAt w F p sv lv kv d) (hc : chk d = 61) (n : Int) (o : Option Addr) (m c : Nat) :
    Calls Try.prog 18 #[.pointer (some ⟨p, 0, none⟩), .int .i64 n, .slice o m c] w fun e w' => e = .returned (.int .i64 61) ∧ w = w' := by
  have HC := Lib.hid (check_calls h)
  rw [hc] at HC
  clear h
  go_enter Try.func18, Try.ntmps18
  go_wp2_with (go_at_call 32; refine HC.out.mono ?_; rintro e w' ⟨rfl, rfl⟩)
  go_ret
  exact ⟨rfl, rfl⟩
set_option maxHeartbeats 2000000 in
theorem fail_arg {w : World} {F : Nat → Prop} {p : Nat} {sv lv kv : Value} {d : Dk} (h : DAt w F p sv lv kv d) (hc : chk d = 0) (n : Int) (hn : n < 0) (o : Option Addr) (m c : Nat) :
    Calls Try.prog 18 #[.pointer (some ⟨p, 0, none⟩), .int .i64 n, .slice o m c] w fun e w' => e = .returned (.int .i64 2) ∧ w = w' := by
  have HC := Lib.hid (check_calls h)
  rw [hc] at HC
  clear h
  go_enter Try.func18, Try.ntmps18
  go_wp2_with (go_at_call 32; refine HC.out.mono ?_; rintro e w' ⟨rfl, rfl⟩)
  go_ret
  exact ⟨rfl, rfl⟩
set_option maxHeartbeats 2000000 in
theorem flush_down {w : World} {F : Nat → Prop} {p : Nat} {sv lv kv : Value} {d : Dk} (h : DAt w F p sv lv kv d) (hc : chk d = 61) :
    Calls Try.prog 15 #[.pointer (some ⟨p, 0, none⟩)] w fun e w' => e = .returned (.int .i64 61) ∧ w = w' := by
  have HC := Lib.hid (check_calls h)
  rw [hc] at HC
  clear h
  go_enter Try.func15, Try.ntmps15
  go_wp2_with (go_at_call 32; refine HC.out.mono ?_; rintro e w' ⟨rfl, rfl⟩)
  go_ret
  exact ⟨rfl, rfl⟩
/-! ### In one form -/
/-- A disk in memory, all of it at B or above. -/
def Dd (B : Nat) (F : Nat → Prop) (p : Nat) (d : Dk) (W : World) : Prop := (∃ sv lv kv, DAt W F p sv lv kv d) ∧ ∀ x, F x → B ≤ x ∧ x < W.heap.size
/-- What an act leaves. -/
def Stp (B : Nat) (F : Nat → Prop) (p : Nat) (d' : Dk) (W W' : World) : Prop := ∃ F', Dd B F' p d' W' ∧ OnlyF F W W' ∧ ∀ x, F' x → F x ∨ W.heap.size ≤ x
theorem Dd.grown {B p : Nat} {F : Nat → Prop} {d d' : Dk} {W W' : World} {sv lv kv : Value} (h : Dd B F p d W) (hB : B ≤ W.heap.size) (h' : DAt W' (grow F W W') p sv lv kv d') (hO : OnlyF F W W') : Stp B F p d' W W' :=
  ⟨grow F W W', ⟨⟨sv, lv, kv, h'⟩, fun x hx => hx.elim (fun h1 => ⟨(h.2 x h1).1, Nat.lt_of_lt_of_le (h.2 x h1).2 hO.size⟩) (fun ⟨a, b⟩ => ⟨Nat.le_trans hB a, b⟩)⟩, hO, fun _ hx => hx.imp (fun h => h) (fun h => h.1)⟩
theorem Dd.same {B p : Nat} {F : Nat → Prop} {d d' : Dk} {W W' : World} {sv lv kv : Value} (h : Dd B F p d W) (h' : DAt W' F p sv lv kv d') (hO : OnlyF F W W') : Stp B F p d' W W' :=
  ⟨F, ⟨⟨sv, lv, kv, h'⟩, fun x hx => ⟨(h.2 x hx).1, Nat.lt_of_lt_of_le (h.2 x hx).2 hO.size⟩⟩, hO, fun _ hx => .inl hx⟩
theorem Dd.keepB {B p : Nat} {F : Nat → Prop} {d : Dk} {W W' : World} (h : Dd B F p d W) (hB : Below W.heap.size W W') : Dd B F p d W' := by
  obtain ⟨⟨sv, lv, kv, h1⟩, h2⟩ := h
  exact ⟨⟨sv, lv, kv, h1.keepB hB⟩, fun x hx => ⟨(h2 x hx).1, Nat.lt_of_lt_of_le (h2 x hx).2 hB.size⟩⟩
theorem Dd.stay {B p : Nat} {F : Nat → Prop} {d : Dk} {W W' : World} (h : Dd B F p d W) (hB : Below W.heap.size W W') : Stp B F p d W W' := ⟨F, h.keepB hB, OnlyF.of hB, fun _ hx => .inl hx⟩
/-- Whatever turns only what is not the disk's leaves it. -/
theorem Dd.other {B p : Nat} {F G : Nat → Prop} {d : Dk} {W W' : World} (h : Dd B F p d W) (hO : OnlyF G W W') (hd : ∀ x, F x → ¬ G x) : Dd B F p d W' := by
  obtain ⟨⟨sv, lv, kv, h1⟩, h2⟩ := h
  exact ⟨⟨sv, lv, kv, h1.keep fun b hb hf => hO.block b hb (hd b hf)⟩, fun x hx => ⟨(h2 x hx).1, Nat.lt_of_lt_of_le (h2 x hx).2 hO.size⟩⟩
theorem Dd.fp {B p : Nat} {F : Nat → Prop} {d : Dk} {W : World} (h : Dd B F p d W) : F p := by
  obtain ⟨⟨sv, lv, kv, h1⟩, h2⟩ := h
  exact h1.fp
/-- What keeps a disk well: m is more than are loose. -/
structure Ok (m : Nat) (d : Dk) : Prop where
  len : 0 < d.sure.length
  ins : Inside d
  soon : Soon d
  loose : d.loose.length ≤ m
theorem Ok.chk {m : Nat} {d : Dk} (h : Ok m d) : chk d = if d.down = true then 61 else 0 := by
  unfold Se.chk
  rw [if_neg (by have := h.len; omega)]
def opWrite (n : Int) (s : ByteArray) (d : Dk) : Int × Dk :=
  if d.down = true then (61, d) else if n < 0 ∨ (d.sure.length : Int) ≤ n ∨ s.size ≠ 512 then (2, d)
  else if isDue d = true then (61, crashD d.keep (putD n.toNat s (dueD d))) else (0, putD n.toNat s (dueD d))
def opFlush (d : Dk) : Int × Dk := if d.down = true then (61, d) else if isDue d = true then (61, crashD d.keep (dueD d)) else (0, flushD (dueD d))
def opCrash (ks : List Bool) (d : Dk) : Int × Dk := if d.down = true then (61, d) else (0, crashD ks d)
def opStart (d : Dk) : Int × Dk := if d.down = true then (0, startD d) else (2, d)
def opFail (n : Int) (ks : List Bool) (d : Dk) : Int × Dk := if d.down = true then (61, d) else if n < 0 then (2, d) else (0, failD n ks d)
def opRead (n : Int) (d : Dk) : ByteArray × Int := if d.down = true then (⟨#[]⟩, 61) else if n < 0 ∨ (d.sure.length : Int) ≤ n then (⟨#[]⟩, 2) else (readD d n.toNat, 0)
theorem write_u {B p m : Nat} {F : Nat → Prop} {d : Dk} {W : World} (h : Dd B F p d W) (ok : Ok m d) (hm : m ≤ 1000000) (hB : B ≤ W.heap.size) (n : Int) (s : ByteArray) :
    Calls Try.prog 14 #[.pointer (some ⟨p, 0, none⟩), .int .i64 n, .string s] W fun e W' => e = .returned (.int .i64 (opWrite n s d).1) ∧ Stp B F p (opWrite n s d).2 W W' := by
  obtain ⟨sv, lv, kv, hd⟩ := h.1
  have hk := ok.chk
  by_cases h1 : d.down = true
  · rw [if_pos h1] at hk
    rw [opWrite, if_pos h1]
    refine (write_down hd hk n s).mono ?_
    rintro e W' ⟨rfl, rfl⟩
    exact ⟨rfl, h.stay (Below.refl _ _)⟩
  · rw [if_neg h1] at hk
    by_cases h2 : n < 0 ∨ (d.sure.length : Int) ≤ n ∨ s.size ≠ 512
    · rw [opWrite, if_neg h1, if_pos h2]
      refine (write_arg hd hk n s h2).mono ?_
      rintro e W' ⟨rfl, rfl⟩
      exact ⟨rfl, h.stay (Below.refl _ _)⟩
    · obtain ⟨k, rfl⟩ : ∃ k : Nat, n = (k : Int) := ⟨n.toNat, by omega⟩
      have hl := ok.loose
      by_cases h3 : isDue d = true
      · rw [opWrite, if_neg h1, if_neg h2, if_pos h3]
        refine (write_due hd hk ok.ins ok.soon h3 k (by omega) s (Classical.byContradiction fun h => h2 (.inr (.inr h))) (by omega)).mono ?_
        rintro e W' ⟨rfl, hd', hO⟩
        exact ⟨rfl, h.grown hB hd' hO⟩
      · rw [opWrite, if_neg h1, if_neg h2, if_neg h3]
        refine (write_ok hd hk ok.soon (by simpa using h3) k (by omega) s (Classical.byContradiction fun h => h2 (.inr (.inr h))) (by omega)).mono ?_
        rintro e W' ⟨lv', rfl, hd', hO⟩
        exact ⟨rfl, h.grown hB hd' hO⟩
theorem flush_u {B p m : Nat} {F : Nat → Prop} {d : Dk} {W : World} (h : Dd B F p d W) (ok : Ok m d) :
    Calls Try.prog 15 #[.pointer (some ⟨p, 0, none⟩)] W fun e W' => e = .returned (.int .i64 (opFlush d).1) ∧ Stp B F p (opFlush d).2 W W' := by
  obtain ⟨sv, lv, kv, hd⟩ := h.1
  have hk := ok.chk
  by_cases h1 : d.down = true
  · rw [if_pos h1] at hk
    rw [opFlush, if_pos h1]
    refine (flush_down hd hk).mono ?_
    rintro e W' ⟨rfl, rfl⟩
    exact ⟨rfl, h.stay (Below.refl _ _)⟩
  · rw [if_neg h1] at hk
    by_cases h3 : isDue d = true
    · rw [opFlush, if_neg h1, if_pos h3]
      refine (flush_due hd hk ok.ins ok.soon h3).mono ?_
      rintro e W' ⟨rfl, hd', hO⟩
      exact ⟨rfl, h.same hd' hO⟩
    · rw [opFlush, if_neg h1, if_neg h3]
      refine (flush_ok hd hk ok.ins ok.soon (by simpa using h3)).mono ?_
      rintro e W' ⟨rfl, hd', hO⟩
      exact ⟨rfl, h.same hd' hO⟩
/-- Bools that lie outside of F. -/
def Outside (F : Nat → Prop) (v : Value) : Prop := ∀ a n c, v = .slice (some a) n c → 0 < n → ¬ F a.block
theorem crash_u {B p m : Nat} {F : Nat → Prop} {d : Dk} {W : World} (h : Dd B F p d W) (ok : Ok m d) (v : Value) (ks : List Bool) (hv : KRow W v ks) (hx : Outside F v) :
    Calls Try.prog 16 #[.pointer (some ⟨p, 0, none⟩), v] W fun e W' => e = .returned (.int .i64 (opCrash ks d).1) ∧ Stp B F p (opCrash ks d).2 W W' := by
  obtain ⟨sv, lv, kv, hd⟩ := h.1
  have hk := ok.chk
  by_cases h1 : d.down = true
  · rw [if_pos h1] at hk
    obtain ⟨o, c, rfl⟩ := hv.form
    rw [opCrash, if_pos h1]
    refine (crash_not hd hk o _ c).mono ?_
    rintro e W' ⟨rfl, hB'⟩
    exact ⟨rfl, h.stay hB'⟩
  · rw [if_neg h1] at hk
    rw [opCrash, if_neg h1]
    refine (crash_ok hd hk ok.ins v ks hv (fun a n c e hn hs => hx a n c e hn (hd.fs _ hs))).mono ?_
    rintro e W' ⟨rfl, hd', hO⟩
    exact ⟨rfl, h.same hd' hO⟩
theorem start_u {B p m : Nat} {F : Nat → Prop} {d : Dk} {W : World} (h : Dd B F p d W) (ok : Ok m d) :
    Calls Try.prog 17 #[.pointer (some ⟨p, 0, none⟩)] W fun e W' => e = .returned (.int .i64 (opStart d).1) ∧ Stp B F p (opStart d).2 W W' := by
  obtain ⟨sv, lv, kv, hd⟩ := h.1
  have hk := ok.chk
  by_cases h1 : d.down = true
  · rw [if_pos h1] at hk
    rw [opStart, if_pos h1]
    refine (start_down hd hk).mono ?_
    rintro e W' ⟨rfl, hd', hO⟩
    exact ⟨rfl, h.same hd' hO⟩
  · rw [if_neg h1] at hk
    rw [opStart, if_neg h1]
    refine (start_up hd hk).mono ?_
    rintro e W' ⟨rfl, rfl⟩
    exact ⟨rfl, h.stay (Below.refl _ _)⟩
theorem fail_u {B p m : Nat} {F : Nat → Prop} {d : Dk} {W : World} (h : Dd B F p d W) (ok : Ok m d) (hB : B ≤ W.heap.size) (n : Int) (v : Value) (ks : List Bool) (hv : KRow W v ks) (hk2 : ks.length ≤ 1000000) :
    Calls Try.prog 18 #[.pointer (some ⟨p, 0, none⟩), .int .i64 n, v] W fun e W' => e = .returned (.int .i64 (opFail n ks d).1) ∧ Stp B F p (opFail n ks d).2 W W' := by
  obtain ⟨sv, lv, kv, hd⟩ := h.1
  have hk := ok.chk
  by_cases h1 : d.down = true
  · rw [if_pos h1] at hk
    obtain ⟨o, c, rfl⟩ := hv.form
    rw [opFail, if_pos h1]
    refine (fail_down hd hk n o _ c).mono ?_
    rintro e W' ⟨rfl, rfl⟩
    exact ⟨rfl, h.stay (Below.refl _ _)⟩
  · rw [if_neg h1] at hk
    by_cases h2 : n < 0
    · obtain ⟨o, c, rfl⟩ := hv.form
      rw [opFail, if_neg h1, if_pos h2]
      refine (fail_arg hd hk n h2 o _ c).mono ?_
      rintro e W' ⟨rfl, rfl⟩
      exact ⟨rfl, h.stay (Below.refl _ _)⟩
    · rw [opFail, if_neg h1, if_neg h2]
      refine (fail_ok hd hk n (by omega) v ks hv hk2).mono ?_
      rintro e W' ⟨kv', rfl, hd', hO⟩
      exact ⟨rfl, h.grown hB hd' hO⟩
theorem read_u {B p m : Nat} {F : Nat → Prop} {d : Dk} {W : World} (h : Dd B F p d W) (ok : Ok m d) (hm : m ≤ 1000000) (n : Int) :
    Calls Try.prog 13 #[.pointer (some ⟨p, 0, none⟩), .int .i64 n] W fun e W' => e = .returned (.tuple #[.string (opRead n d).1, .int .i64 (opRead n d).2]) ∧ Below W.heap.size W W' := by
  obtain ⟨sv, lv, kv, hd⟩ := h.1
  have hk := ok.chk
  have hl := ok.loose
  by_cases h1 : d.down = true
  · rw [if_pos h1] at hk
    rw [opRead, if_pos h1]
    exact read_down hd hk n
  · rw [if_neg h1] at hk
    by_cases h2 : n < 0 ∨ (d.sure.length : Int) ≤ n
    · rw [opRead, if_neg h1, if_pos h2]
      exact read_arg hd hk n h2
    · obtain ⟨k, rfl⟩ : ∃ k : Nat, n = (k : Int) := ⟨n.toNat, by omega⟩
      rw [opRead, if_neg h1, if_neg h2]
      exact read_ok hd hk k (by omega) (by omega)
theorem up_u {B p m : Nat} {F : Nat → Prop} {d : Dk} {W : World} (h : Dd B F p d W) (ok : Ok m d) : Calls Try.prog 21 #[.pointer (some ⟨p, 0, none⟩)] W fun e W' => e = .returned (.bool (!d.down)) ∧ W = W' := by
  obtain ⟨sv, lv, kv, hd⟩ := h.1
  refine (up_calls (check_calls hd)).mono ?_
  rintro e W' ⟨rfl, rfl⟩
  refine ⟨?_, rfl⟩
  rw [ok.chk]
  cases d.down <;> rfl
theorem size_u {B p : Nat} {F : Nat → Prop} {d : Dk} {W : World} (h : Dd B F p d W) : Calls Try.prog 19 #[.pointer (some ⟨p, 0, none⟩)] W fun e w' => e = .returned (.int .i64 (d.sure.length : Int)) ∧ W = w' := by
  obtain ⟨sv, lv, kv, hd⟩ := h.1
  exact size_calls hd
theorem loose_u {B p : Nat} {F : Nat → Prop} {d : Dk} {W : World} (h : Dd B F p d W) : Calls Try.prog 20 #[.pointer (some ⟨p, 0, none⟩)] W fun e w' => e = .returned (.int .i64 (d.loose.length : Int)) ∧ W = w' := by
  obtain ⟨sv, lv, kv, hd⟩ := h.1
  exact loose_calls hd
theorem starts_u {B p : Nat} {F : Nat → Prop} {d : Dk} {W : World} (h : Dd B F p d W) : Calls Try.prog 22 #[.pointer (some ⟨p, 0, none⟩)] W fun e w' => e = .returned (.int .i64 d.starts) ∧ W = w' := by
  obtain ⟨sv, lv, kv, hd⟩ := h.1
  exact starts_calls hd
/-! ### It stays well -/
theorem ok_crash {m : Nat} {d : Dk} {ks : List Bool} (h : Ok m d) : Ok m (crashD ks d) :=
  ⟨by rw [crashD, settleD]; show 0 < (setN _ _ _ _).length; rw [setN_length]; exact h.len, fun x hx => (by cases hx), fun hf => (by cases hf), Nat.zero_le _⟩
theorem due_of {d : Dk} (h : isDue d = false) (hs : Soon d) : Soon (dueD d) := by
  unfold dueD
  split
  · next hf =>
    intro _
    have h1 := hs hf
    unfold isDue at h
    rw [hf] at h
    simp at h
    show 0 ≤ d.left - 1 ∧ d.left - 1 ≤ 1000000
    omega
  · exact hs
theorem ok_due {m : Nat} {d : Dk} (h : Ok m d) (hd : isDue d = false) : Ok m (dueD d) :=
  ⟨by unfold dueD; split <;> exact h.len, inside_due h.ins, due_of hd h.soon, by unfold dueD; split <;> exact h.loose⟩
theorem crash_len {d : Dk} {ks : List Bool} : (crashD ks d).sure.length = d.sure.length := setN_length _ _ _ _
theorem due_len {d : Dk} : (dueD d).sure.length = d.sure.length := by unfold dueD; split <;> rfl
theorem due_loose {d : Dk} : (dueD d).loose = d.loose := by unfold dueD; split <;> rfl
theorem due_sure {d : Dk} : (dueD d).sure = d.sure := by unfold dueD; split <;> rfl
theorem due_keep {d : Dk} : (dueD d).keep = d.keep := by unfold dueD; split <;> rfl
theorem due_down {d : Dk} : (dueD d).down = d.down := by unfold dueD; split <;> rfl
theorem due_fails {d : Dk} : (dueD d).fails = d.fails := by unfold dueD; split <;> rfl
theorem due_starts {d : Dk} : (dueD d).starts = d.starts := by unfold dueD; split <;> rfl
theorem ok_flush {m : Nat} {d : Dk} (h : Ok m d) : Ok m (flushD d) :=
  ⟨by rw [flushD, settleD]; show 0 < (setN _ _ _ _).length; rw [setN_length]; exact h.len, fun x hx => (by cases hx), h.soon, Nat.zero_le _⟩
theorem ok_opWrite {m : Nat} {d : Dk} (h : Ok m d) (n : Int) (s : ByteArray) : Ok (m + 1) (opWrite n s d).2 := by
  unfold opWrite
  split
  · exact ⟨h.len, h.ins, h.soon, Nat.le_succ_of_le h.loose⟩
  · split
    · exact ⟨h.len, h.ins, h.soon, Nat.le_succ_of_le h.loose⟩
    · next hn =>
      have hi : Inside (putD n.toNat s (dueD d)) := inside_put (inside_due h.ins) (by rw [due_len]; omega) s
      have hl : (putD n.toNat s (dueD d)).loose.length ≤ m + 1 := by
        have := h.loose
        simp [putD, due_loose]
        omega
      have h0 : 0 < (putD n.toNat s (dueD d)).sure.length := by
        show 0 < (dueD d).sure.length
        rw [due_len]
        exact h.len
      split
      · refine ⟨by rw [crash_len]; exact h0, fun x hx => (by cases hx), fun hf => (by cases hf), Nat.zero_le _⟩
      · next hd => exact ⟨h0, hi, due_of (by simpa using hd) h.soon, hl⟩
theorem ok_opFlush {m : Nat} {d : Dk} (h : Ok m d) : Ok m (opFlush d).2 := by
  unfold opFlush
  split
  · exact h
  · split
    · refine ⟨by rw [crash_len, due_len]; exact h.len, fun x hx => (by cases hx), fun hf => (by cases hf), Nat.zero_le _⟩
    · next hd => exact ok_flush (ok_due h (by simpa using hd))
theorem ok_opCrash {m : Nat} {d : Dk} (h : Ok m d) (ks : List Bool) : Ok m (opCrash ks d).2 := by
  unfold opCrash
  split
  · exact h
  · exact ok_crash h
theorem ok_opStart {m : Nat} {d : Dk} (h : Ok m d) : Ok m (opStart d).2 := by
  unfold opStart
  split
  · exact ⟨h.len, h.ins, h.soon, h.loose⟩
  · exact h
theorem ok_opFail {m : Nat} {d : Dk} (h : Ok m d) (n : Int) (hn : n ≤ 1000000) (ks : List Bool) : Ok m (opFail n ks d).2 := by
  unfold opFail
  split
  · exact h
  · split
    · exact h
    · exact ⟨h.len, h.ins, fun _ => ⟨by show 0 ≤ n; omega, hn⟩, h.loose⟩
theorem Ok.mono {m k : Nat} {d : Dk} (h : Ok m d) (hk : m ≤ k) : Ok k d := ⟨h.len, h.ins, h.soon, Nat.le_trans h.loose hk⟩
end Go.Proofs.Yteblobookpldfaa.Se
