/- The document's disk, each act in one form; both disks alike. -/
import Derived.Test.YteblobookpldfaaSeY
namespace Go.Proofs.Yteblobookpldfaa.Se
open Go.RowKit Go.Shelf Go.Proofs

def Rd (B : Nat) (G : Nat → Prop) (q : Nat) (r : Rk) (W : World) : Prop := (∃ sv lv kv, RAt W G q sv lv kv r) ∧ ∀ x, G x → B ≤ x ∧ x < W.heap.size
def RSt (B : Nat) (G : Nat → Prop) (q : Nat) (r' : Rk) (W W' : World) : Prop := ∃ G', Rd B G' q r' W' ∧ OnlyF G W W' ∧ ∀ x, G' x → G x ∨ W.heap.size ≤ x
theorem Rd.grown {B q : Nat} {G : Nat → Prop} {r r' : Rk} {W W' : World} {sv lv kv : Value} (h : Rd B G q r W) (hB : B ≤ W.heap.size) (h' : RAt W' (grow G W W') q sv lv kv r') (hO : OnlyF G W W') : RSt B G q r' W W' :=
  ⟨grow G W W', ⟨⟨sv, lv, kv, h'⟩, fun x hx => hx.elim (fun h1 => ⟨(h.2 x h1).1, Nat.lt_of_lt_of_le (h.2 x h1).2 hO.size⟩) (fun ⟨a, b⟩ => ⟨Nat.le_trans hB a, b⟩)⟩, hO, fun _ hx => hx.imp (fun h => h) (fun h => h.1)⟩
theorem Rd.same {B q : Nat} {G : Nat → Prop} {r r' : Rk} {W W' : World} {sv lv kv : Value} (h : Rd B G q r W) (h' : RAt W' G q sv lv kv r') (hO : OnlyF G W W') : RSt B G q r' W W' :=
  ⟨G, ⟨⟨sv, lv, kv, h'⟩, fun x hx => ⟨(h.2 x hx).1, Nat.lt_of_lt_of_le (h.2 x hx).2 hO.size⟩⟩, hO, fun _ hx => .inl hx⟩
theorem Rd.keepB {B q : Nat} {G : Nat → Prop} {r : Rk} {W W' : World} (h : Rd B G q r W) (hB : Below W.heap.size W W') : Rd B G q r W' := by
  obtain ⟨⟨sv, lv, kv, h1⟩, h2⟩ := h
  exact ⟨⟨sv, lv, kv, h1.keepB hB⟩, fun x hx => ⟨(h2 x hx).1, Nat.lt_of_lt_of_le (h2 x hx).2 hB.size⟩⟩
theorem Rd.stay {B q : Nat} {G : Nat → Prop} {r : Rk} {W W' : World} (h : Rd B G q r W) (hB : Below W.heap.size W W') : RSt B G q r W W' := ⟨G, h.keepB hB, OnlyF.of hB, fun _ hx => .inl hx⟩
theorem Rd.other {B q : Nat} {F G : Nat → Prop} {r : Rk} {W W' : World} (h : Rd B G q r W) (hO : OnlyF F W W') (hd : ∀ x, G x → ¬ F x) : Rd B G q r W' := by
  obtain ⟨⟨sv, lv, kv, h1⟩, h2⟩ := h
  exact ⟨⟨sv, lv, kv, h1.keep fun b hb hf => hO.block b hb (hd b hf)⟩, fun x hx => ⟨(h2 x hx).1, Nat.lt_of_lt_of_le (h2 x hx).2 hO.size⟩⟩
/-- Both disks are alike; m: no more than so many writes are loose. -/
structure Pair (m : Nat) (d : Dk) (r : Rk) : Prop where
  ok : Ok m d
  sure : d.sure = r.sure
  loose : d.loose = r.loose
  down : d.down = r.down
  starts : d.starts = r.starts
  fails : d.fails = decide (0 ≤ r.left)
  left : d.fails = true → d.left = r.left
  keep : d.fails = true → d.keep = r.keep
  max : r.sure.length ≤ 1000000
  lb : r.left ≤ 1000000
theorem Pair.pos {m : Nat} {d : Dk} {r : Rk} (P : Pair m d r) : 0 < r.sure.length := by rw [← P.sure]; exact P.ok.len
theorem Pair.ins {m : Nat} {d : Dk} {r : Rk} (P : Pair m d r) : InsideR r := fun x hx => by
  rw [← P.sure]
  exact P.ok.ins x (by rw [P.loose]; exact hx)
theorem Pair.isDue {m : Nat} {d : Dk} {r : Rk} (P : Pair m d r) : isDue d = decide (r.left = 0) := by
  unfold Se.isDue
  cases hf : d.fails
  · have := P.fails
    rw [hf] at this
    have h1 : ¬ 0 ≤ r.left := by simpa using this.symm
    have h2 : ¬ r.left = 0 := by omega
    rw [decide_eq_false h2]
    rfl
  · have h1 := P.left hf
    have h2 := P.ok.soon hf
    rw [h1] at h2 ⊢
    rw [Bool.true_and]
    exact decide_eq_decide.2 ⟨fun h => by omega, fun h => by omega⟩
def ropWrite (n : Int) (s : ByteArray) (r : Rk) : Int × Rk :=
  if r.down = true then (61, r) else if n < 0 ∨ (r.sure.length : Int) ≤ n ∨ s.size ≠ 512 then (2, r)
  else if r.left = 0 then (61, crashR r.keep (putR n.toNat s r)) else (0, putR n.toNat s (failsR r))
def ropFlush (r : Rk) : Int × Rk := if r.down = true then (61, r) else if r.left = 0 then (61, crashR r.keep r) else (0, flushR (failsR r))
def ropCrash (ks : List Bool) (r : Rk) : Int × Rk := if r.down = true then (61, r) else (0, crashR ks r)
def ropStart (r : Rk) : Int × Rk := if r.down = true then (0, startR r) else (2, r)
def ropFail (n : Int) (ks : List Bool) (r : Rk) : Int × Rk := if r.down = true then (61, r) else if n < 0 then (2, r) else (0, failR n ks r)
def ropRead (n : Int) (r : Rk) : ByteArray × Int := if r.down = true then (⟨#[]⟩, 61) else if n < 0 ∨ (r.sure.length : Int) ≤ n then (⟨#[]⟩, 2) else (readR r n.toNat r.loose.length, 0)
section
variable {B q m : Nat} {G : Nat → Prop} {d : Dk} {r : Rk} {W : World}
theorem write_r (h : Rd B G q r W) (P : Pair m d r) (hm : m ≤ 1000000) (hB : B ≤ W.heap.size) (n : Int) (s : ByteArray) :
    Calls Try.prog 26 #[.pointer (some ⟨q, 0, none⟩), .int .i64 n, .string s] W fun e W' => e = .returned (.int .i64 (ropWrite n s r).1) ∧ RSt B G q (ropWrite n s r).2 W W' := by
  obtain ⟨sv, lv, kv, hd⟩ := h.1
  have hl : r.loose.length ≤ m := by rw [← P.loose]; exact P.ok.loose
  by_cases h1 : r.down = true
  · rw [ropWrite, if_pos h1]
    refine (rWrite_down hd h1 n s).mono ?_
    rintro e W' ⟨rfl, rfl⟩
    exact ⟨rfl, h.stay (Below.refl _ _)⟩
  · have h1' : r.down = false := by simpa using h1
    by_cases h2 : n < 0 ∨ (r.sure.length : Int) ≤ n ∨ s.size ≠ 512
    · rw [ropWrite, if_neg h1, if_pos h2]
      refine (rWrite_arg hd h1' n s h2).mono ?_
      rintro e W' ⟨rfl, rfl⟩
      exact ⟨rfl, h.stay (Below.refl _ _)⟩
    · obtain ⟨k, rfl⟩ : ∃ k : Nat, n = (k : Int) := ⟨n.toNat, by omega⟩
      have hs : s.size = 512 := Classical.byContradiction fun h => h2 (.inr (.inr h))
      by_cases h3 : r.left = 0
      · rw [ropWrite, if_neg h1, if_neg h2, if_pos h3]
        refine (rWrite_due hd (fun x hx => (h.2 x hx).2) h1' h3 P.ins P.max k (by omega) s hs (by omega)).mono ?_
        rintro e W' ⟨sv', rfl, hd', hO⟩
        exact ⟨rfl, h.grown hB hd' hO⟩
      · rw [ropWrite, if_neg h1, if_neg h2, if_neg h3]
        refine (rWrite_ok hd h1' h3 P.lb k (by omega) s hs (by omega)).mono ?_
        rintro e W' ⟨lv', rfl, hd', hO⟩
        exact ⟨rfl, h.grown hB hd' hO⟩
theorem flush_r (h : Rd B G q r W) (P : Pair m d r) (hB : B ≤ W.heap.size) :
    Calls Try.prog 27 #[.pointer (some ⟨q, 0, none⟩)] W fun e W' => e = .returned (.int .i64 (ropFlush r).1) ∧ RSt B G q (ropFlush r).2 W W' := by
  obtain ⟨sv, lv, kv, hd⟩ := h.1
  by_cases h1 : r.down = true
  · rw [ropFlush, if_pos h1]
    refine (rFlush_down hd h1).mono ?_
    rintro e W' ⟨rfl, rfl⟩
    exact ⟨rfl, h.stay (Below.refl _ _)⟩
  · have h1' : r.down = false := by simpa using h1
    by_cases h3 : r.left = 0
    · rw [ropFlush, if_neg h1, if_pos h3]
      refine (rFlush_due hd (fun x hx => (h.2 x hx).2) h1' h3 P.pos P.max P.ins).mono ?_
      rintro e W' ⟨sv', rfl, hd', hO⟩
      exact ⟨rfl, h.grown hB hd' hO⟩
    · rw [ropFlush, if_neg h1, if_neg h3]
      refine (rFlush_ok hd (fun x hx => (h.2 x hx).2) h1' h3 P.lb P.pos P.max P.ins).mono ?_
      rintro e W' ⟨sv', rfl, hd', hO⟩
      exact ⟨rfl, h.grown hB hd' hO⟩
theorem crash_r (h : Rd B G q r W) (P : Pair m d r) (hB : B ≤ W.heap.size) (v : Value) (ks : List Bool) (hv : KRow W v ks) :
    Calls Try.prog 28 #[.pointer (some ⟨q, 0, none⟩), v] W fun e W' => e = .returned (.int .i64 (ropCrash ks r).1) ∧ RSt B G q (ropCrash ks r).2 W W' := by
  obtain ⟨sv, lv, kv, hd⟩ := h.1
  by_cases h1 : r.down = true
  · rw [ropCrash, if_pos h1]
    refine (rCrash_down hd h1 v).mono ?_
    rintro e W' ⟨rfl, rfl⟩
    exact ⟨rfl, h.stay (Below.refl _ _)⟩
  · have h1' : r.down = false := by simpa using h1
    rw [ropCrash, if_neg h1]
    refine (rCrash_ok hd (fun x hx => (h.2 x hx).2) h1' P.pos P.max P.ins v ks hv).mono ?_
    rintro e W' ⟨sv', rfl, hd', hO⟩
    exact ⟨rfl, h.grown hB hd' hO⟩
theorem start_r (h : Rd B G q r W) :
    Calls Try.prog 29 #[.pointer (some ⟨q, 0, none⟩)] W fun e W' => e = .returned (.int .i64 (ropStart r).1) ∧ RSt B G q (ropStart r).2 W W' := by
  obtain ⟨sv, lv, kv, hd⟩ := h.1
  by_cases h1 : r.down = true
  · rw [ropStart, if_pos h1]
    refine (rStart_down hd h1).mono ?_
    rintro e W' ⟨rfl, hd', hO⟩
    exact ⟨rfl, h.same hd' hO⟩
  · have h1' : r.down = false := by simpa using h1
    rw [ropStart, if_neg h1]
    refine (rStart_up hd h1').mono ?_
    rintro e W' ⟨rfl, rfl⟩
    exact ⟨rfl, h.stay (Below.refl _ _)⟩
theorem fail_r (h : Rd B G q r W) (hB : B ≤ W.heap.size) (n : Int) (v : Value) (ks : List Bool) (hv : KRow W v ks) (hk : ks.length ≤ 1000000) :
    Calls Try.prog 30 #[.pointer (some ⟨q, 0, none⟩), .int .i64 n, v] W fun e W' => e = .returned (.int .i64 (ropFail n ks r).1) ∧ RSt B G q (ropFail n ks r).2 W W' := by
  obtain ⟨sv, lv, kv, hd⟩ := h.1
  by_cases h1 : r.down = true
  · rw [ropFail, if_pos h1]
    refine (rFail_down hd h1 n v).mono ?_
    rintro e W' ⟨rfl, rfl⟩
    exact ⟨rfl, h.stay (Below.refl _ _)⟩
  · have h1' : r.down = false := by simpa using h1
    by_cases h2 : n < 0
    · rw [ropFail, if_neg h1, if_pos h2]
      refine (rFail_arg hd h1' n h2 v).mono ?_
      rintro e W' ⟨rfl, rfl⟩
      exact ⟨rfl, h.stay (Below.refl _ _)⟩
    · rw [ropFail, if_neg h1, if_neg h2]
      refine (rFail_ok hd h1' n h2 v ks hv hk).mono ?_
      rintro e W' ⟨kv', rfl, hd', hO⟩
      exact ⟨rfl, h.grown hB hd' hO⟩
theorem read_r (h : Rd B G q r W) (n : Int) :
    Calls Try.prog 31 #[.pointer (some ⟨q, 0, none⟩), .int .i64 n] W fun e W' => e = .returned (.tuple #[.string (ropRead n r).1, .int .i64 (ropRead n r).2]) ∧ W = W' := by
  obtain ⟨sv, lv, kv, hd⟩ := h.1
  by_cases h1 : r.down = true
  · rw [ropRead, if_pos h1]
    exact rRead_down hd h1 n
  · have h1' : r.down = false := by simpa using h1
    by_cases h2 : n < 0 ∨ (r.sure.length : Int) ≤ n
    · rw [ropRead, if_neg h1, if_pos h2]
      exact rRead_arg hd h1' n h2
    · obtain ⟨k, rfl⟩ : ∃ k : Nat, n = (k : Int) := ⟨n.toNat, by omega⟩
      rw [ropRead, if_neg h1, if_neg h2]
      exact rRead_ok hd h1' k (by omega)
end
/-! ### Alike, they stay alike -/
section
variable {m : Nat} {d : Dk} {r : Rk}
theorem Pair.mono (P : Pair m d r) {k : Nat} (h : m ≤ k) : Pair k d r := ⟨P.ok.mono h, P.sure, P.loose, P.down, P.starts, P.fails, P.left, P.keep, P.max, P.lb⟩
theorem pair_crash {m' : Nat} {d' : Dk} {r' : Rk} {ks : List Bool} (ok : Ok m' (crashD ks d')) (h1 : d'.sure = r'.sure) (h2 : d'.loose = r'.loose) (h3 : d'.starts = r'.starts) (h4 : r'.sure.length ≤ 1000000) : Pair m' (crashD ks d') (crashR ks r') := by
  have e : (crashD ks d').sure = (crashR ks r').sure := by
    show setN _ d'.loose d'.sure d'.loose.length = setN _ r'.loose r'.sure r'.loose.length
    rw [h1, h2]
  refine ⟨ok, e, rfl, rfl, h3, rfl, fun h => (by cases h), fun h => (by cases h), ?_, by show (-1 : Int) ≤ 1000000; decide⟩
  show (setN _ r'.loose r'.sure r'.loose.length).length ≤ 1000000
  rw [setN_length]
  exact h4
theorem Pair.next (P : Pair m d r) (h : ¬ r.left = 0) : (dueD d).fails = decide (0 ≤ (failsR r).left) ∧ ((dueD d).fails = true → (dueD d).left = (failsR r).left) ∧ ((dueD d).fails = true → (dueD d).keep = (failsR r).keep) ∧ (failsR r).left ≤ 1000000 := by
  have hf := P.fails
  have hl := P.lb
  by_cases h0 : 0 ≤ r.left
  · rw [decide_eq_true h0] at hf
    have h1 := P.left hf
    have h2 := P.keep hf
    unfold dueD failsR
    rw [if_pos hf, if_pos (by omega)]
    have e : decide (0 ≤ r.left - 1) = true := decide_eq_true (by omega)
    exact ⟨hf.trans e.symm, fun _ => by show d.left - 1 = r.left - 1; rw [h1], fun _ => h2, by show r.left - 1 ≤ 1000000; omega⟩
  · rw [decide_eq_false h0] at hf
    unfold dueD failsR
    rw [if_neg (by rw [hf]; decide), if_neg (by omega)]
    exact ⟨hf.trans (decide_eq_false h0).symm, fun h => (by rw [hf] at h; cases h), fun h => (by rw [hf] at h; cases h), hl⟩
theorem pair_write (P : Pair m d r) (n : Int) (s : ByteArray) : (opWrite n s d).1 = (ropWrite n s r).1 ∧ Pair (m + 1) (opWrite n s d).2 (ropWrite n s r).2 := by
  have ok := ok_opWrite P.ok n s
  obtain ⟨t1, t2, t3, t4, t5⟩ := failsR_sure r
  unfold opWrite ropWrite at *
  rw [← P.down, ← P.sure]
  by_cases h1 : d.down = true
  · rw [if_pos h1, if_pos h1]
    exact ⟨rfl, P.mono (by omega)⟩
  · rw [if_neg h1] at ok
    rw [if_neg h1, if_neg h1]
    by_cases h2 : n < 0 ∨ (d.sure.length : Int) ≤ n ∨ s.size ≠ 512
    · rw [if_pos h2, if_pos h2]
      exact ⟨rfl, P.mono (by omega)⟩
    · rw [if_neg h2] at ok
      rw [if_neg h2, if_neg h2]
      have hd := P.isDue
      by_cases h3 : r.left = 0
      · rw [decide_eq_true h3] at hd
        have hf : d.fails = true := by rw [P.fails]; exact decide_eq_true (by omega)
        rw [if_pos hd] at ok
        rw [if_pos hd, if_pos h3, P.keep hf] at *
        refine ⟨rfl, pair_crash ok ?_ ?_ ?_ P.max⟩
        · exact due_sure.trans P.sure
        · show (dueD d).loose ++ [(n.toNat, s)] = r.loose ++ [(n.toNat, s)]
          rw [due_loose, P.loose]
        · exact due_starts.trans P.starts
      · rw [decide_eq_false h3] at hd
        rw [if_neg (by rw [hd]; decide)] at ok
        rw [if_neg (by rw [hd]; decide), if_neg h3]
        obtain ⟨a1, a2, a3, a4⟩ := P.next h3
        refine ⟨rfl, ok, ?_, ?_, ?_, ?_, a1, a2, a3, ?_, a4⟩
        · exact due_sure.trans (P.sure.trans t1.symm)
        · show (dueD d).loose ++ [(n.toNat, s)] = (failsR r).loose ++ [(n.toNat, s)]
          rw [due_loose, P.loose, t2]
        · exact due_down.trans (P.down.trans t3.symm)
        · exact due_starts.trans (P.starts.trans t5.symm)
        · show (failsR r).sure.length ≤ 1000000
          rw [t1]
          exact P.max
theorem pair_flush (P : Pair m d r) : (opFlush d).1 = (ropFlush r).1 ∧ Pair m (opFlush d).2 (ropFlush r).2 := by
  have ok := ok_opFlush P.ok
  obtain ⟨t1, t2, t3, t4, t5⟩ := failsR_sure r
  unfold opFlush ropFlush at *
  rw [← P.down]
  by_cases h1 : d.down = true
  · rw [if_pos h1, if_pos h1]
    exact ⟨rfl, P⟩
  · rw [if_neg h1] at ok
    rw [if_neg h1, if_neg h1]
    have hd := P.isDue
    by_cases h3 : r.left = 0
    · rw [decide_eq_true h3] at hd
      have hf : d.fails = true := by rw [P.fails]; exact decide_eq_true (by omega)
      rw [if_pos hd] at ok
      rw [if_pos hd, if_pos h3, P.keep hf] at *
      exact ⟨rfl, pair_crash ok (due_sure.trans P.sure) (due_loose.trans P.loose) (due_starts.trans P.starts) P.max⟩
    · rw [decide_eq_false h3] at hd
      rw [if_neg (by rw [hd]; decide)] at ok
      rw [if_neg (by rw [hd]; decide), if_neg h3]
      obtain ⟨a1, a2, a3, a4⟩ := P.next h3
      refine ⟨rfl, ok, ?_, rfl, due_down.trans (P.down.trans t3.symm), due_starts.trans (P.starts.trans t5.symm), a1, a2, a3, ?_, a4⟩
      · show setN _ (dueD d).loose (dueD d).sure (dueD d).loose.length = setN _ (failsR r).loose (failsR r).sure (failsR r).loose.length
        rw [due_loose, due_sure, P.loose, P.sure, t1, t2]
      · show (setN _ (failsR r).loose (failsR r).sure (failsR r).loose.length).length ≤ 1000000
        rw [setN_length, t1]
        exact P.max
theorem pair_opCrash (P : Pair m d r) (ks : List Bool) : (opCrash ks d).1 = (ropCrash ks r).1 ∧ Pair m (opCrash ks d).2 (ropCrash ks r).2 := by
  have ok := ok_opCrash P.ok ks
  unfold opCrash ropCrash at *
  rw [← P.down]
  by_cases h1 : d.down = true
  · rw [if_pos h1, if_pos h1]
    exact ⟨rfl, P⟩
  · rw [if_neg h1] at ok
    rw [if_neg h1, if_neg h1]
    exact ⟨rfl, pair_crash ok P.sure P.loose P.starts P.max⟩
theorem pair_start (P : Pair m d r) : (opStart d).1 = (ropStart r).1 ∧ Pair m (opStart d).2 (ropStart r).2 := by
  have ok := ok_opStart P.ok
  unfold opStart ropStart at *
  rw [← P.down]
  by_cases h1 : d.down = true
  · rw [if_pos h1] at ok
    rw [if_pos h1, if_pos h1]
    exact ⟨rfl, ok, P.sure, P.loose, rfl, by show wrap64 (d.starts + 1) = wrap64 (r.starts + 1); rw [P.starts], P.fails, P.left, P.keep, P.max, P.lb⟩
  · rw [if_neg h1, if_neg h1]
    exact ⟨rfl, P⟩
theorem pair_fail (P : Pair m d r) (n : Int) (hn : n ≤ 1000000) (ks : List Bool) : (opFail n ks d).1 = (ropFail n ks r).1 ∧ Pair m (opFail n ks d).2 (ropFail n ks r).2 := by
  have ok := ok_opFail P.ok n hn ks
  unfold opFail ropFail at *
  rw [← P.down]
  by_cases h1 : d.down = true
  · rw [if_pos h1, if_pos h1]
    exact ⟨rfl, P⟩
  · rw [if_neg h1] at ok
    rw [if_neg h1, if_neg h1]
    by_cases h2 : n < 0
    · rw [if_pos h2, if_pos h2]
      exact ⟨rfl, P⟩
    · rw [if_neg h2] at ok
      rw [if_neg h2, if_neg h2]
      exact ⟨rfl, ok, P.sure, P.loose, P.down, P.starts, (decide_eq_true (show 0 ≤ n by omega)).symm, fun _ => rfl, fun _ => rfl, P.max, hn⟩
theorem pair_read (P : Pair m d r) (n : Int) : opRead n d = ropRead n r := by
  unfold opRead ropRead
  rw [← P.down, ← P.sure]
  have e : readD d n.toNat = readR r n.toNat r.loose.length := by
    unfold readD readR
    rw [List.take_length, ← P.loose, ← P.sure]
    rfl
  rw [e]
end
theorem pair_new (n : Nat) (h : 0 < n) (hn : n ≤ 1000000) : Pair 0 (dN n) (rN n) :=
  ⟨ok_new n h, rfl, rfl, rfl, rfl, rfl, fun h => (by cases h), fun h => (by cases h), by simp [rN]; exact hn, by show (-1 : Int) ≤ 1000000; decide⟩
/-! ### Side by side -/
def DR (B : Nat) (F G : Nat → Prop) (p q : Nat) (d : Dk) (r : Rk) (W : World) : Prop := Dd B F p d W ∧ Rd B G q r W ∧ ∀ x, F x → ¬ G x
def DRS (B : Nat) (F G : Nat → Prop) (p q : Nat) (d : Dk) (r : Rk) (W W' : World) : Prop :=
  ∃ F' G', DR B F' G' p q d r W' ∧ OnlyF (fun x => F x ∨ G x) W W' ∧ (∀ x, F' x → F x ∨ W.heap.size ≤ x) ∧ ∀ x, G' x → G x ∨ W.heap.size ≤ x
theorem OnlyF.more {F G : Nat → Prop} {w w' : World} (h : OnlyF F w w') (hG : ∀ x, F x → G x) : OnlyF G w w' := ⟨h.os, h.tape, h.output, h.size, fun b hb hn => h.block b hb (fun hx => hn (hG b hx))⟩
section
variable {B p q : Nat} {F G : Nat → Prop} {d d' : Dk} {r r' : Rk} {W W' : World}
theorem DR.left (h : DR B F G p q d r W) (s : Stp B F p d' W W') : DRS B F G p q d' r W W' := by
  obtain ⟨h1, h2, h3⟩ := h
  obtain ⟨F', s1, s2, s3⟩ := s
  refine ⟨F', G, ⟨s1, h2.other s2 (fun x hg hf => h3 x hf hg), fun x hf hg => ?_⟩, s2.more fun _ => .inl, s3, fun _ => .inl⟩
  rcases s3 x hf with h4 | h4
  · exact h3 x h4 hg
  · exact Nat.lt_irrefl _ (Nat.lt_of_lt_of_le (h2.2 x hg).2 h4)
theorem DR.right (h : DR B F G p q d r W) (s : RSt B G q r' W W') : DRS B F G p q d r' W W' := by
  obtain ⟨h1, h2, h3⟩ := h
  obtain ⟨G', s1, s2, s3⟩ := s
  refine ⟨F, G', ⟨h1.other s2 h3, s1, fun x hf hg => ?_⟩, s2.more fun _ => .inr, fun _ => .inl, s3⟩
  rcases s3 x hg with h4 | h4
  · exact h3 x hf h4
  · exact Nat.lt_irrefl _ (Nat.lt_of_lt_of_le (h1.2 x hf).2 h4)
theorem DRS.trans {F' G' : Nat → Prop} {W2 : World} (o : OnlyF (fun x => F x ∨ G x) W W') (h1 : ∀ x, F' x → F x ∨ W.heap.size ≤ x) (h2 : ∀ x, G' x → G x ∨ W.heap.size ≤ x) (s : DRS B F' G' p q d r W' W2) : DRS B F G p q d r W W2 := by
  obtain ⟨F2, G2, a, b, c, e⟩ := s
  refine ⟨F2, G2, a, ⟨b.os.trans o.os, b.tape.trans o.tape, b.output.trans o.output, Nat.le_trans o.size b.size, fun x hx hn => ?_⟩, fun x hx => ?_, fun x hx => ?_⟩
  · rw [b.block x (Nat.lt_of_lt_of_le hx o.size) (fun h => h.elim (fun h => (h1 x h).elim (fun h => hn (.inl h)) (fun h => by omega)) (fun h => (h2 x h).elim (fun h => hn (.inr h)) (fun h => by omega)))]
    exact o.block x hx hn
  · rcases c x hx with h | h
    · exact h1 x h
    · exact .inr (Nat.le_trans o.size h)
  · rcases e x hx with h | h
    · exact h2 x h
    · exact .inr (Nat.le_trans o.size h)
theorem DR.keepB (h : DR B F G p q d r W) (hB : Below W.heap.size W W') : DR B F G p q d r W' := ⟨h.1.keepB hB, h.2.1.keepB hB, h.2.2⟩
theorem DR.stay (h : DR B F G p q d r W) (hB : Below W.heap.size W W') : DRS B F G p q d r W W' := ⟨F, G, h.keepB hB, OnlyF.of hB, fun _ => .inl, fun _ => .inl⟩
end
end Go.Proofs.Yteblobookpldfaa.Se
