/- One disk of the call's own; the chapter's disk. -/
import Derived.Test.YteblobookpldfaaSeP
namespace Go.Proofs.Yteblobookpldfaa.Se
open Go.RowKit Go.Shelf Go.Proofs
attribute [local go_sem] Oper.semAt_some

/-- One disk, the call's own. -/
def D1 (w0 : World) (p : Nat) (d : Dk) (W : World) : Prop := Below w0.heap.size w0 W ∧ ∃ F, Dd w0.heap.size F p d W
theorem D1.stp {w0 W W' : World} {F : Nat → Prop} {p : Nat} {d' : Dk} (hb : Below w0.heap.size w0 W) (hF : ∀ x, F x → w0.heap.size ≤ x) (h : Stp w0.heap.size F p d' W W') : D1 w0 p d' W' := by
  obtain ⟨F', h1, h2, _⟩ := h
  exact ⟨h2.below hb hF (Nat.le_refl _), F', h1⟩
theorem D1.keepB {w0 W W' : World} {p : Nat} {d : Dk} (h : D1 w0 p d W) (hB : Below W.heap.size W W') : D1 w0 p d W' := by
  obtain ⟨h1, F, h2⟩ := h
  exact ⟨h1.trans (hB.mono h1.size), F, h2.keepB hB⟩
theorem D1.write {w0 W : World} {p m : Nat} {d d' : Dk} {r : Int} (h : D1 w0 p d W) (ok : Ok m d) (hm : m ≤ 1000000) (n : Int) (s : ByteArray) (e : opWrite n s d = (r, d')) :
    Calls Try.prog 14 #[.pointer (some ⟨p, 0, none⟩), .int .i64 n, .string s] W fun e W' => e = .returned (.int .i64 r) ∧ D1 w0 p d' W' := by
  obtain ⟨h1, F, h2⟩ := h
  refine (write_u h2 ok hm h1.size n s).mono ?_
  rintro _ W' ⟨rfl, h3⟩
  rw [e] at h3 ⊢
  exact ⟨rfl, D1.stp h1 (fun x hx => (h2.2 x hx).1) h3⟩
theorem D1.flush {w0 W : World} {p m : Nat} {d d' : Dk} {r : Int} (h : D1 w0 p d W) (ok : Ok m d) (e : opFlush d = (r, d')) :
    Calls Try.prog 15 #[.pointer (some ⟨p, 0, none⟩)] W fun e W' => e = .returned (.int .i64 r) ∧ D1 w0 p d' W' := by
  obtain ⟨h1, F, h2⟩ := h
  refine (flush_u h2 ok).mono ?_
  rintro _ W' ⟨rfl, h3⟩
  rw [e] at h3 ⊢
  exact ⟨rfl, D1.stp h1 (fun x hx => (h2.2 x hx).1) h3⟩
theorem D1.start {w0 W : World} {p m : Nat} {d d' : Dk} {r : Int} (h : D1 w0 p d W) (ok : Ok m d) (e : opStart d = (r, d')) :
    Calls Try.prog 17 #[.pointer (some ⟨p, 0, none⟩)] W fun e W' => e = .returned (.int .i64 r) ∧ D1 w0 p d' W' := by
  obtain ⟨h1, F, h2⟩ := h
  refine (start_u h2 ok).mono ?_
  rintro _ W' ⟨rfl, h3⟩
  rw [e] at h3 ⊢
  exact ⟨rfl, D1.stp h1 (fun x hx => (h2.2 x hx).1) h3⟩
/-- Bools that were there ahead of the call, or that lie behind all there was: outside of the disk. -/
theorem D1.crash {w0 W : World} {p m : Nat} {d d' : Dk} {r : Int} (h : D1 w0 p d W) (ok : Ok m d) (v : Value) (ks : List Bool) (hv : KRow w0 v ks) (hvw : ∀ a n c, v = .slice (some a) n c → 0 < n → a.block < w0.heap.size) (e : opCrash ks d = (r, d')) :
    Calls Try.prog 16 #[.pointer (some ⟨p, 0, none⟩), v] W fun e W' => e = .returned (.int .i64 r) ∧ D1 w0 p d' W' := by
  obtain ⟨h1, F, h2⟩ := h
  refine (crash_u h2 ok v ks (hv.keepB h1) (fun a n c e hn hF => by have := (h2.2 _ hF).1; have := hvw a n c e hn; omega)).mono ?_
  rintro _ W' ⟨rfl, h3⟩
  rw [e] at h3 ⊢
  exact ⟨rfl, D1.stp h1 (fun x hx => (h2.2 x hx).1) h3⟩
theorem D1.crashNew {w0 W : World} {p m : Nat} {d d' : Dk} {r : Int} (h : D1 w0 p d W) (ok : Ok m d) (b : Bool) (e : opCrash [b] d = (r, d')) :
    Calls Try.prog 16 #[.pointer (some ⟨p, 0, none⟩), .slice (some ⟨W.heap.size, 0, none⟩) 1 1] (W.alloc (.cells #[.bool b] 4)) fun e W' => e = .returned (.int .i64 r) ∧ D1 w0 p d' W' := by
  obtain ⟨h1, F, h2⟩ := h
  have hB : Below W.heap.size W (W.alloc (.cells #[.bool b] 4)) := (Below.refl _ _).alloc (Nat.le_refl _) _
  refine (crash_u (h2.keepB hB) ok _ [b] (.inr ⟨_, 1, rfl, fun i x hx => ?_⟩) (fun a n c e hn hF => ?_)).mono ?_
  · rw [add_zero, block_cell (alloc_new _ _ _ rfl)]
    match i, hx with
    | 0, hx => cases hx; rfl
  · obtain ⟨e1, _, _⟩ := Value.slice.inj e
    obtain rfl := Option.some.inj e1
    have := (h2.2 _ hF).2
    exact Nat.lt_irrefl _ this
  · rintro _ W' ⟨rfl, h3⟩
    rw [e] at h3 ⊢
    exact ⟨rfl, D1.stp (h1.trans (hB.mono h1.size)) (fun x hx => (h2.2 x hx).1) h3⟩
theorem D1.failNil {w0 W : World} {p m : Nat} {d d' : Dk} {r : Int} (h : D1 w0 p d W) (ok : Ok m d) (n : Int) (e : opFail n [] d = (r, d')) :
    Calls Try.prog 18 #[.pointer (some ⟨p, 0, none⟩), .int .i64 n, .slice none 0 0] W fun e W' => e = .returned (.int .i64 r) ∧ D1 w0 p d' W' := by
  obtain ⟨h1, F, h2⟩ := h
  refine (fail_u h2 ok h1.size n _ [] (.inl ⟨rfl, rfl⟩) (Nat.zero_le _)).mono ?_
  rintro _ W' ⟨rfl, h3⟩
  rw [e] at h3 ⊢
  exact ⟨rfl, D1.stp h1 (fun x hx => (h2.2 x hx).1) h3⟩
theorem D1.read {w0 W : World} {p m : Nat} {d : Dk} (h : D1 w0 p d W) (ok : Ok m d) (hm : m ≤ 1000000) (n : Int) (s : ByteArray) (r : Int) (e : opRead n d = (s, r)) :
    Calls Try.prog 13 #[.pointer (some ⟨p, 0, none⟩), .int .i64 n] W fun e W' => e = .returned (.tuple #[.string s, .int .i64 r]) ∧ D1 w0 p d W' := by
  obtain ⟨h1, F, h2⟩ := h
  refine (read_u h2 ok hm n).mono ?_
  rintro _ W' ⟨rfl, h3⟩
  rw [e]
  exact ⟨rfl, h1.trans (h3.mono h1.size), F, h2.keepB h3⟩
theorem D1.up {w0 W : World} {p m : Nat} {d : Dk} (h : D1 w0 p d W) (ok : Ok m d) (b : Bool) (e : d.down = !b) : Calls Try.prog 21 #[.pointer (some ⟨p, 0, none⟩)] W fun e W' => e = .returned (.bool b) ∧ W = W' := by
  obtain ⟨h1, F, h2⟩ := h
  refine (up_u h2 ok).mono ?_
  rintro _ W' ⟨rfl, rfl⟩
  exact ⟨by rw [e, Bool.not_not], rfl⟩
theorem D1.loose {w0 W : World} {p : Nat} {d : Dk} (h : D1 w0 p d W) : Calls Try.prog 20 #[.pointer (some ⟨p, 0, none⟩)] W fun e W' => e = .returned (.int .i64 (d.loose.length : Int)) ∧ W = W' := by
  obtain ⟨h1, F, h2⟩ := h
  exact loose_u h2
/-- A new disk of n sectors. -/
theorem D1.new (w0 W : World) (hB : Below w0.heap.size w0 W) (n : Nat) (h8 : 8 ≤ n) (hn : n ≤ 4096) : Calls Try.prog 9 #[.int .i64 (n : Int)] W fun e W' => ∃ p, e = .returned (.tuple #[.pointer (some ⟨p, 0, none⟩), .int .i64 0]) ∧ D1 w0 p (dN n) W' := by
  refine (new_some W n h8 hn).mono ?_
  rintro _ W' ⟨p, sv, rfl, h1, h2⟩
  exact ⟨p, rfl, hB.trans (h2.mono hB.size), _, ⟨_, _, _, h1⟩, fun x hx => ⟨Nat.le_trans hB.size hx.1, hx.2⟩⟩
theorem ok_new (n : Nat) (hn : 0 < n) : Ok 0 (dN n) := ⟨by unfold dN; simpa using hn, fun x hx => (by cases hx), fun hf => (by cases hf), Nat.le_refl _⟩
/-! ### The chapter's disk -/
def spD (z : ByteArray) (two : ByteArray) (L : List (Nat × ByteArray)) (down : Bool) (st : Int) (fails : Bool) (left : Int) : Dk := ⟨[z, z, two, z, z, z, z, z], L, down, st, fails, left, []⟩
theorem sp_ok (z two : ByteArray) (L : List (Nat × ByteArray)) (hL : ∀ x ∈ L, x.1 = 2) (h2 : L.length ≤ 2) (down : Bool) (st : Int) (fails : Bool) (left : Int) (hl : 0 ≤ left ∧ left ≤ 5) : Ok 2 (spD z two L down st fails left) :=
  ⟨by simp [spD], fun x hx => by rw [hL x hx]; simp [spD], fun _ => ⟨hl.1, by show left ≤ 1000000; omega⟩, h2⟩
theorem sp_new : dN 8 = spD (secS 0) (secS 0) [] false 0 false 0 := rfl
theorem sp_write (z two : ByteArray) (L : List (Nat × ByteArray)) (a : ByteArray) (ha : a.size = 512) : opWrite 2 a (spD z two L false 0 false 0) = (0, spD z two (L ++ [(2, a)]) false 0 false 0) := by
  simp [opWrite, spD, ha, isDue, dueD, putD]
theorem sp_crash (z a b : ByteArray) : opCrash [true] (spD z z [(2, a), (2, b)] false 0 false 0) = (0, spD z a [] true 0 false 0) := by
  simp [opCrash, spD, crashD, settleD, setN]
theorem sp_start (z a : ByteArray) : opStart (spD z a [] true 0 false 0) = (0, spD z a [] false 1 false 0) := by
  simp [opStart, spD, startD]
  unfold wrap64
  omega
theorem sp_read (z a : ByteArray) : opRead 2 (spD z a [] false 1 false 0) = (a, 0) := by
  simp [opRead, spD, readD, lastW]
theorem sp_write9 (z a s : ByteArray) : opWrite 9 s (spD z a [] false 1 false 0) = (2, spD z a [] false 1 false 0) := by
  simp [opWrite, spD]
theorem sp_writex (z a : ByteArray) : opWrite 1 ⟨#[120]⟩ (spD z a [] false 1 false 0) = (2, spD z a [] false 1 false 0) := by
  have h : (⟨#[120]⟩ : ByteArray).size ≠ 512 := by decide
  simp [opWrite, spD, h]
theorem sp_fail (z a : ByteArray) : opFail 1 [] (spD z a [] false 1 false 0) = (0, spD z a [] false 1 true 1) := by
  simp [opFail, spD, failD]
theorem sp_flush (z a : ByteArray) : opFlush (spD z a [] false 1 true 1) = (0, spD z a [] false 1 true 0) := by
  simp [opFlush, spD, isDue, dueD, flushD, settleD, setN]
theorem sp_flush2 (z a : ByteArray) : opFlush (spD z a [] false 1 true 0) = (61, spD z a [] true 1 false (-1)) := by
  simp [opFlush, spD, isDue, dueD, crashD, settleD, setN]
end Go.Proofs.Yteblobookpldfaa.Se
