/- Two disks side by side; a failure that is set, in plain words. -/
import Derived.Test.YteblobookpldfaaSeR
namespace Go.Proofs.Yteblobookpldfaa.Se
open Go.RowKit Go.Shelf Go.Proofs

theorem cell_lt {w : World} {a : Addr} {v : Value} (h : w.cell? a = some v) : a.block < w.heap.size := by
  unfold World.cell? at h
  rcases Nat.lt_or_ge a.block w.heap.size with h1 | h1
  · exact h1
  · rw [Array.getElem?_eq_none h1] at h
    simp at h
theorem KRow.lt {w : World} {v : Value} {ks : List Bool} (h : KRow w v ks) : ∀ a n c, v = .slice (some a) n c → 0 < n → a.block < w.heap.size := fun a n c e hn => by
  rcases h with ⟨h, _⟩ | ⟨a', c', h, h2⟩
  · rw [h] at e; cases e
  · rw [h] at e
    obtain ⟨e1, e2, _⟩ := Value.slice.inj e
    obtain rfl := Option.some.inj e1
    obtain ⟨x, hx⟩ : ∃ x, ks[0]? = some x := ⟨_, List.getElem?_eq_getElem (by omega)⟩
    exact cell_lt (h2 0 x hx)
/-- Two disks, both the call's own. -/
def D2 (w0 : World) (p q : Nat) (d r : Dk) (W : World) : Prop := Below w0.heap.size w0 W ∧ ∃ F G, Dd w0.heap.size F p d W ∧ Dd w0.heap.size G q r W ∧ ∀ x, F x → ¬ G x
theorem D2.symm {w0 W : World} {p q : Nat} {d r : Dk} (h : D2 w0 p q d r W) : D2 w0 q p r d W := by
  obtain ⟨h1, F, G, h2, h3, h4⟩ := h
  exact ⟨h1, G, F, h3, h2, fun x hg hf => h4 x hf hg⟩
theorem D2.keepB {w0 W W' : World} {p q : Nat} {d r : Dk} (h : D2 w0 p q d r W) (hB : Below W.heap.size W W') : D2 w0 p q d r W' := by
  obtain ⟨h1, F, G, h2, h3, h4⟩ := h
  exact ⟨h1.trans (hB.mono h1.size), F, G, h2.keepB hB, h3.keepB hB, h4⟩
theorem D2.stp {w0 W W' : World} {F G : Nat → Prop} {p q : Nat} {d d' r : Dk} (hb : Below w0.heap.size w0 W) (h : Dd w0.heap.size F p d W) (k : Dd w0.heap.size G q r W) (hFG : ∀ x, F x → ¬ G x) (hs : Stp w0.heap.size F p d' W W') : D2 w0 p q d' r W' := by
  obtain ⟨F', h1, h2, h3⟩ := hs
  refine ⟨h2.below hb (fun x hx => (h.2 x hx).1) (Nat.le_refl _), F', G, h1, k.other h2 (fun x hg hf => hFG x hf hg), fun x hf hg => ?_⟩
  rcases h3 x hf with h4 | h4
  · exact hFG x h4 hg
  · exact Nat.lt_irrefl _ (Nat.lt_of_lt_of_le (k.2 x hg).2 h4)
theorem D2.write {w0 W : World} {p q m : Nat} {d d' r : Dk} {z : Int} (h : D2 w0 p q d r W) (ok : Ok m d) (hm : m ≤ 1000000) (n : Int) (s : ByteArray) (e : opWrite n s d = (z, d')) :
    Calls Try.prog 14 #[.pointer (some ⟨p, 0, none⟩), .int .i64 n, .string s] W fun e W' => e = .returned (.int .i64 z) ∧ D2 w0 p q d' r W' := by
  obtain ⟨h1, F, G, h2, h3, h4⟩ := h
  refine (write_u h2 ok hm h1.size n s).mono ?_
  rintro _ W' ⟨rfl, h5⟩
  rw [e] at h5 ⊢
  exact ⟨rfl, D2.stp h1 h2 h3 h4 h5⟩
theorem D2.flush {w0 W : World} {p q m : Nat} {d d' r : Dk} {z : Int} (h : D2 w0 p q d r W) (ok : Ok m d) (e : opFlush d = (z, d')) :
    Calls Try.prog 15 #[.pointer (some ⟨p, 0, none⟩)] W fun e W' => e = .returned (.int .i64 z) ∧ D2 w0 p q d' r W' := by
  obtain ⟨h1, F, G, h2, h3, h4⟩ := h
  refine (flush_u h2 ok).mono ?_
  rintro _ W' ⟨rfl, h5⟩
  rw [e] at h5 ⊢
  exact ⟨rfl, D2.stp h1 h2 h3 h4 h5⟩
theorem D2.start {w0 W : World} {p q m : Nat} {d d' r : Dk} {z : Int} (h : D2 w0 p q d r W) (ok : Ok m d) (e : opStart d = (z, d')) :
    Calls Try.prog 17 #[.pointer (some ⟨p, 0, none⟩)] W fun e W' => e = .returned (.int .i64 z) ∧ D2 w0 p q d' r W' := by
  obtain ⟨h1, F, G, h2, h3, h4⟩ := h
  refine (start_u h2 ok).mono ?_
  rintro _ W' ⟨rfl, h5⟩
  rw [e] at h5 ⊢
  exact ⟨rfl, D2.stp h1 h2 h3 h4 h5⟩
theorem D2.crash {w0 W : World} {p q m : Nat} {d d' r : Dk} {z : Int} (h : D2 w0 p q d r W) (ok : Ok m d) (v : Value) (ks : List Bool) (hv : KRow w0 v ks) (e : opCrash ks d = (z, d')) :
    Calls Try.prog 16 #[.pointer (some ⟨p, 0, none⟩), v] W fun e W' => e = .returned (.int .i64 z) ∧ D2 w0 p q d' r W' := by
  obtain ⟨h1, F, G, h2, h3, h4⟩ := h
  refine (crash_u h2 ok v ks (hv.keepB h1) (fun a n c e hn hF => by have := (h2.2 _ hF).1; have := hv.lt a n c e hn; omega)).mono ?_
  rintro _ W' ⟨rfl, h5⟩
  rw [e] at h5 ⊢
  exact ⟨rfl, D2.stp h1 h2 h3 h4 h5⟩
theorem D2.fail {w0 W : World} {p q m : Nat} {d d' r : Dk} {z : Int} (h : D2 w0 p q d r W) (ok : Ok m d) (n : Int) (v : Value) (ks : List Bool) (hv : KRow w0 v ks) (hk : ks.length ≤ 1000000) (e : opFail n ks d = (z, d')) :
    Calls Try.prog 18 #[.pointer (some ⟨p, 0, none⟩), .int .i64 n, v] W fun e W' => e = .returned (.int .i64 z) ∧ D2 w0 p q d' r W' := by
  obtain ⟨h1, F, G, h2, h3, h4⟩ := h
  refine (fail_u h2 ok h1.size n v ks (hv.keepB h1) hk).mono ?_
  rintro _ W' ⟨rfl, h5⟩
  rw [e] at h5 ⊢
  exact ⟨rfl, D2.stp h1 h2 h3 h4 h5⟩
theorem D2.read {w0 W : World} {p q m : Nat} {d r : Dk} (h : D2 w0 p q d r W) (ok : Ok m d) (hm : m ≤ 1000000) (n : Int) (s : ByteArray) (z : Int) (e : opRead n d = (s, z)) :
    Calls Try.prog 13 #[.pointer (some ⟨p, 0, none⟩), .int .i64 n] W fun e W' => e = .returned (.tuple #[.string s, .int .i64 z]) ∧ D2 w0 p q d r W' := by
  have h0 := h
  obtain ⟨h1, F, G, h2, h3, h4⟩ := h
  refine (read_u h2 ok hm n).mono ?_
  rintro _ W' ⟨rfl, h5⟩
  rw [e]
  exact ⟨rfl, h0.keepB h5⟩
theorem D2.up {w0 W : World} {p q m : Nat} {d r : Dk} (h : D2 w0 p q d r W) (ok : Ok m d) (b : Bool) (e : d.down = !b) : Calls Try.prog 21 #[.pointer (some ⟨p, 0, none⟩)] W fun e W' => e = .returned (.bool b) ∧ W = W' := by
  obtain ⟨h1, F, G, h2, h3, h4⟩ := h
  refine (up_u h2 ok).mono ?_
  rintro _ W' ⟨rfl, rfl⟩
  exact ⟨by rw [e, Bool.not_not], rfl⟩
/-- A second new disk. -/
theorem D1.new2 {w0 W : World} {p : Nat} {d : Dk} (h : D1 w0 p d W) (n : Nat) (h8 : 8 ≤ n) (hn : n ≤ 4096) : Calls Try.prog 9 #[.int .i64 (n : Int)] W fun e W' => ∃ q, e = .returned (.tuple #[.pointer (some ⟨q, 0, none⟩), .int .i64 0]) ∧ D2 w0 p q d (dN n) W' := by
  obtain ⟨h1, F, h2⟩ := h
  refine (new_some W n h8 hn).mono ?_
  rintro _ W' ⟨q, sv, rfl, h3, h4⟩
  exact ⟨q, rfl, h1.trans (h4.mono h1.size), F, _, h2.keepB h4, ⟨⟨_, _, _, h3⟩, fun x hx => ⟨Nat.le_trans h1.size hx.1, hx.2⟩⟩, fun x hf hg => Nat.lt_irrefl _ (Nat.lt_of_lt_of_le (h2.2 x hf).2 hg.1)⟩
/-! ### A failure that is set -/
structure FailI (N i : Nat) (ks : List Bool) (a b : Dk) : Prop where
  eq : a = { b with fails := true, left := (N : Int) - (i : Int), keep := ks }
  up : b.down = false
  nf : b.fails = false
  ok : Ok i b
  len : b.sure.length = 8
  hi : i ≤ N
theorem FailI.oka {N i : Nat} {ks : List Bool} {a b : Dk} (h : FailI N i ks a b) (hN : N ≤ 1000) : Ok i a := by
  have hi := h.hi
  rw [h.eq]
  exact ⟨h.ok.len, h.ok.ins, fun _ => by show 0 ≤ (N : Int) - (i : Int) ∧ (N : Int) - (i : Int) ≤ 1000000; omega, h.ok.loose⟩
theorem FailI.init (N : Nat) (ks : List Bool) : ∃ a, opFail (N : Int) ks (dN 8) = (0, a) ∧ FailI N 0 ks a (dN 8) := by
  refine ⟨failD N ks (dN 8), ?_, ?_, rfl, rfl, ok_new 8 (by decide), by simp [dN], Nat.zero_le _⟩
  · have : ¬ (N : Int) < 0 := by omega
    simp [opFail, dN]
  · simp [failD]
theorem FailI.isDue {N i : Nat} {ks : List Bool} {a b : Dk} (h : FailI N i ks a b) : isDue a = decide (N = i) := by
  rw [h.eq]
  unfold Se.isDue
  have hi := h.hi
  by_cases e : N = i
  · subst e
    simp
  · have : ¬ (N : Int) - (i : Int) - 1 < 0 := by omega
    simp [e]
    omega
theorem nf_isDue {b : Dk} (h : b.fails = false) : isDue b = false := by
  unfold isDue
  rw [h]
  rfl
theorem nf_dueD {b : Dk} (h : b.fails = false) : dueD b = b := by
  unfold dueD
  rw [if_neg (by rw [h]; decide)]
theorem FailI.flush {N i : Nat} {ks : List Bool} {a b : Dk} (h : FailI N i ks a b) (hi : i < N) : ∃ a' b', opFlush a = (0, a') ∧ opFlush b = (0, b') ∧ FailI N (i + 1) ks a' b' := by
  have hd := h.isDue
  rw [decide_eq_false (by omega)] at hd
  have hb := nf_isDue h.nf
  have ha : a.down = false := by rw [h.eq]; exact h.up
  have haf : a.fails = true := by rw [h.eq]
  refine ⟨flushD (dueD a), flushD b, ?_, ?_, ?_, h.up, h.nf, ⟨(ok_flush h.ok).len, (ok_flush h.ok).ins, (ok_flush h.ok).soon, Nat.le_succ_of_le (ok_flush h.ok).loose⟩, ?_, hi⟩
  · unfold opFlush
    rw [ha, hd]
    rfl
  · unfold opFlush
    rw [h.up, hb, nf_dueD h.nf]
    rfl
  · unfold dueD
    rw [if_pos haf, h.eq]
    unfold flushD settleD
    simp
    omega
  · rw [flushD, settleD]
    show (setN _ _ _ _).length = 8
    rw [setN_length]
    exact h.len
theorem opWrite_in {d : Dk} (hd : d.down = false) {n : Nat} (hn : n < d.sure.length) {s : ByteArray} (hs : s.size = 512) : opWrite (n : Int) s d = if isDue d = true then (61, crashD d.keep (putD n s (dueD d))) else (0, putD n s (dueD d)) := by
  have h1 : ¬ ((n : Int) < 0 ∨ (d.sure.length : Int) ≤ (n : Int) ∨ s.size ≠ 512) := by omega
  unfold opWrite
  rw [if_neg (by rw [hd]; decide), if_neg h1]
  rfl
theorem FailI.write {N i : Nat} {ks : List Bool} {a b : Dk} (h : FailI N i ks a b) (hi : i < N) {n : Nat} (hn : n < 8) {s : ByteArray} (hs : s.size = 512) :
    ∃ a' b', opWrite (n : Int) s a = (0, a') ∧ opWrite (n : Int) s b = (0, b') ∧ FailI N (i + 1) ks a' b' := by
  have hd := h.isDue
  rw [decide_eq_false (by omega)] at hd
  have hb := nf_isDue h.nf
  have ha : a.down = false := by rw [h.eq]; exact h.up
  have haf : a.fails = true := by rw [h.eq]
  have hal : n < a.sure.length := by rw [h.eq]; show n < b.sure.length; rw [h.len]; exact hn
  have hbl : n < b.sure.length := by rw [h.len]; exact hn
  have hw := ok_opWrite h.ok (n : Int) s
  rw [opWrite_in h.up hbl hs, hb, nf_dueD h.nf] at hw
  refine ⟨putD n s (dueD a), putD n s b, ?_, ?_, ?_, h.up, h.nf, hw, h.len, hi⟩
  · rw [opWrite_in ha hal hs, hd]
    rfl
  · rw [opWrite_in h.up hbl hs, hb, nf_dueD h.nf]
    rfl
  · unfold dueD
    rw [if_pos haf, h.eq]
    unfold putD
    simp
    omega
/-- Behind the failure: a crashed, b not yet. -/
structure FailE (ks : List Bool) (a b : Dk) : Prop where
  down : a.down = true
  nfa : a.fails = false
  oka : Ok 50 a
  up : b.down = false
  nf : b.fails = false
  okb : Ok 50 b
  sure : a.sure = (crashD ks b).sure
  loose : a.loose = []
  len : b.sure.length = 8
theorem FailI.flushE {N i : Nat} {ks : List Bool} {a b : Dk} (h : FailI N i ks a b) (hi : i = N) (hN : N ≤ 40) : ∃ a', opFlush a = (61, a') ∧ FailE ks a' b := by
  have hd := h.isDue
  rw [decide_eq_true (by omega)] at hd
  have ha : a.down = false := by rw [h.eq]; exact h.up
  have hka : a.keep = ks := by rw [h.eq]
  have hs : (crashD ks (dueD a)).sure = (crashD ks b).sure := by
    unfold crashD settleD
    rw [due_loose, due_sure, h.eq]
  refine ⟨crashD ks (dueD a), ?_, rfl, rfl, ?_, h.up, h.nf, h.ok.mono (by omega), hs, rfl, h.len⟩
  · unfold opFlush
    rw [ha, hd, hka]
    rfl
  · have := ok_opFlush (h.oka (by omega))
    unfold opFlush at this
    rw [ha, hd, hka] at this
    exact Ok.mono this (by omega)
theorem FailI.writeE {N i : Nat} {ks : List Bool} {a b : Dk} (h : FailI N i ks a b) (hi : i = N) (hN : N ≤ 40) {n : Nat} (hn : n < 8) {s : ByteArray} (hs : s.size = 512) :
    ∃ a' b', opWrite (n : Int) s a = (61, a') ∧ opWrite (n : Int) s b = (0, b') ∧ FailE ks a' b' := by
  have hd := h.isDue
  rw [decide_eq_true (by omega)] at hd
  have hb := nf_isDue h.nf
  have ha : a.down = false := by rw [h.eq]; exact h.up
  have hka : a.keep = ks := by rw [h.eq]
  have hal : n < a.sure.length := by rw [h.eq]; show n < b.sure.length; rw [h.len]; exact hn
  have hbl : n < b.sure.length := by rw [h.len]; exact hn
  have hw := ok_opWrite h.ok (n : Int) s
  rw [opWrite_in h.up hbl hs, hb, nf_dueD h.nf] at hw
  have hwa := ok_opWrite (h.oka (by omega)) (n : Int) s
  rw [opWrite_in ha hal hs, hd] at hwa
  refine ⟨crashD ks (putD n s (dueD a)), putD n s b, ?_, ?_, rfl, rfl, ?_, h.up, h.nf, Ok.mono hw (by omega), ?_, rfl, h.len⟩
  · rw [opWrite_in ha hal hs, hd, hka]
    rfl
  · rw [opWrite_in h.up hbl hs, hb, nf_dueD h.nf]
    rfl
  · rw [hka] at hwa
    exact Ok.mono hwa (by omega)
  · unfold crashD settleD putD
    simp only []
    rw [due_loose, due_sure, h.eq]
/-- Taken up again: both have the same. -/
structure FailF (a b : Dk) : Prop where
  upa : a.down = false
  upb : b.down = false
  nfa : a.fails = false
  oka : Ok 50 a
  okb : Ok 50 b
  sure : a.sure = b.sure
  la : a.loose = []
  lb : b.loose = []
  len : b.sure.length = 8
theorem FailE.next {ks : List Bool} {a b : Dk} (h : FailE ks a b) : ∃ a' b' b'', opCrash ks b = (0, b') ∧ Ok 50 b' ∧ opStart a = (0, a') ∧ opStart b' = (0, b'') ∧ FailF a' b'' := by
  refine ⟨startD a, crashD ks b, startD (crashD ks b), ?_, ok_crash h.okb, ?_, ?_, rfl, rfl, h.nfa, ⟨h.oka.len, h.oka.ins, h.oka.soon, h.oka.loose⟩, ?_, h.sure, h.loose, rfl, ?_⟩
  · unfold opCrash
    rw [h.up]
    rfl
  · unfold opStart
    rw [h.down]
    rfl
  · rfl
  · have := ok_crash (ks := ks) h.okb
    exact ⟨this.len, this.ins, this.soon, this.loose⟩
  · show (crashD ks b).sure.length = 8
    rw [crash_len]
    exact h.len
theorem opRead_in {d : Dk} (hd : d.down = false) {n : Nat} (hn : n < d.sure.length) : opRead (n : Int) d = (readD d n, 0) := by
  have h1 : ¬ ((n : Int) < 0 ∨ (d.sure.length : Int) ≤ (n : Int)) := by omega
  unfold opRead
  rw [if_neg (by rw [hd]; decide), if_neg h1]
  rfl
theorem FailF.read {a b : Dk} (h : FailF a b) {k : Nat} (hk : k < 8) : ∃ s, opRead (k : Int) a = (s, 0) ∧ opRead (k : Int) b = (s, 0) := by
  have h1 : readD a k = readD b k := by
    unfold readD
    rw [h.la, h.lb, h.sure]
  exact ⟨readD b k, by rw [opRead_in h.upa (by rw [h.sure, h.len]; exact hk), h1], opRead_in h.upb (by rw [h.len]; exact hk)⟩
theorem FailF.last {a b : Dk} (h : FailF a b) {s : ByteArray} (hs : s.size = 512) : ∃ a' a'', opWrite 0 s a = (0, a') ∧ Ok 51 a' ∧ opFlush a' = (0, a'') := by
  have hw := ok_opWrite h.oka (0 : Int) s
  have e : opWrite 0 s a = (0, putD 0 s a) := by
    have := opWrite_in h.upa (n := 0) (by rw [h.sure, h.len]; decide) hs
    rw [nf_isDue h.nfa, nf_dueD h.nfa] at this
    exact this
  rw [e] at hw
  refine ⟨_, flushD (putD 0 s a), e, hw, ?_⟩
  unfold opFlush
  rw [show (putD 0 s a).down = false from h.upa, show isDue (putD 0 s a) = false from nf_isDue h.nfa, show dueD (putD 0 s a) = putD 0 s a from nf_dueD h.nfa]
  rfl
end Go.Proofs.Yteblobookpldfaa.Se
