/- An act with both disks. -/
import Derived.Test.YteblobookpldfaaSeZ
import Derived.Test.YteblobookpldfaaSeS
import Derived.Deep.RegionHeld3
namespace Go.Proofs.Yteblobookpldfaa.Se
open Go.RowKit Go.Shelf Go.Proofs
attribute [local go_sem] Oper.semAt_some

/-- Within an act: the act's own copy, both disks. -/
def DI (B : Nat) (F G : Nat → Prop) (p q : Nat) (W : World) (x : ActV) (d : Dk) (r : Rk) (W1 : World) : Prop :=
  ∃ F' G', DR B F' G' p q d r W1 ∧ OnlyF (fun x => F x ∨ G x) W W1 ∧ (∀ x, F' x → F x ∨ W.heap.size < x) ∧ (∀ x, G' x → G x ∨ W.heap.size < x) ∧ W1.heap[W.heap.size]? = some (.cells x.cells 34 (0, 0)) ∧ KRow W1 x.v x.ks ∧ Outside F' x.v ∧ Outside G' x.v
section
variable {B p q m : Nat} {F G : Nat → Prop} {W W1 W2 : World} {x : ActV} {d d' : Dk} {r r' : Rk}
theorem DI.size (h : DI B F G p q W x d r W1) : W.heap.size < W1.heap.size := by
  obtain ⟨F', G', _, _, _, _, h5, _⟩ := h
  exact lt_of_block h5
theorem DI.next {F' G' : Nat → Prop} (hF : ∀ x, F x → x < W.heap.size) (hG : ∀ x, G x → x < W.heap.size) (o : OnlyF (fun x => F x ∨ G x) W W1) (h1 : ∀ x, F' x → F x ∨ W.heap.size < x) (h2 : ∀ x, G' x → G x ∨ W.heap.size < x)
    (h3 : W1.heap[W.heap.size]? = some (.cells x.cells 34 (0, 0))) (h4 : KRow W1 x.v x.ks) (h5 : Outside F' x.v) (h6 : Outside G' x.v) (s : DRS B F' G' p q d' r' W1 W2) : DI B F G p q W x d' r' W2 := by
  obtain ⟨F2, G2, a, b, c, e⟩ := s
  have hs := lt_of_block h3
  refine ⟨F2, G2, a, ⟨b.os.trans o.os, b.tape.trans o.tape, b.output.trans o.output, Nat.le_trans o.size b.size, fun y hy hn => ?_⟩, fun y hy => ?_, fun y hy => ?_, ?_, ?_, fun a n c' e' hn hf => ?_, fun a n c' e' hn hf => ?_⟩
  · rw [b.block y (Nat.lt_of_lt_of_le hy o.size) (fun h => h.elim (fun h => (h1 y h).elim (fun h => hn (.inl h)) (fun h => by omega)) (fun h => (h2 y h).elim (fun h => hn (.inr h)) (fun h => by omega)))]
    exact o.block y hy hn
  · rcases c y hy with h | h
    · exact h1 y h
    · exact .inr (Nat.lt_of_lt_of_le hs h)
  · rcases e y hy with h | h
    · exact h2 y h
    · exact .inr (Nat.lt_of_lt_of_le hs h)
  · rw [b.block _ hs (fun h => h.elim (fun h => (h1 _ h).elim (fun h => by have := hF _ h; omega) (fun h => by omega)) (fun h => (h2 _ h).elim (fun h => by have := hG _ h; omega) (fun h => by omega)))]
    exact h3
  · exact h4.keep b fun a n c' e' hn hf => hf.elim (h5 a n c' e' hn) (h6 a n c' e' hn)
  · rcases c _ hf with h | h
    · exact h5 a n c' e' hn h
    · have := h4.lt a n c' e' hn
      omega
  · rcases e _ hf with h | h
    · exact h6 a n c' e' hn h
    · have := h4.lt a n c' e' hn
      omega
theorem DI.keepB (h : DI B F G p q W x d r W1) (hF : ∀ x, F x → x < W.heap.size) (hG : ∀ x, G x → x < W.heap.size) (hB : Below W1.heap.size W1 W2) : DI B F G p q W x d r W2 := by
  obtain ⟨F', G', a, o, h1, h2, h3, h4, h5, h6⟩ := h
  exact DI.next hF hG o h1 h2 h3 h4 h5 h6 (a.stay hB)
theorem DI.start (h : DR B F G p q d r W) (hv : KRow W x.v x.ks) (h5 : Outside F x.v) (h6 : Outside G x.v) : DI B F G p q W x d r (W.alloc (.cells x.cells 34)) := by
  have hB : Below W.heap.size W (W.alloc (.cells x.cells 34)) := (Below.refl _ _).alloc (Nat.le_refl _) _
  exact ⟨F, G, h.keepB hB, OnlyF.of hB, fun _ => .inl, fun _ => .inl, alloc_new _ _ _ rfl, hv.keepB hB, h5, h6⟩
theorem DI.done (h : DI B F G p q W x d r W1) : DRS B F G p q d r W W1 := by
  obtain ⟨F', G', a, o, h1, h2, h3, h4, h5, h6⟩ := h
  exact ⟨F', G', a, o, fun x hx => (h1 x hx).imp (fun h => h) (fun h => by omega), fun x hx => (h2 x hx).imp (fun h => h) (fun h => by omega)⟩
theorem DI.cell (h : DI B F G p q W x d r W1) : W1.cell? ⟨W.heap.size, 0, none⟩ = some (.int .u8 (x.kind : Int)) ∧ W1.cell? ⟨W.heap.size, 1, none⟩ = some (.int .u8 (x.c.toNat : Int)) ∧ W1.cell? ⟨W.heap.size, 2, none⟩ = some (.int .i64 x.n) ∧ W1.cell? ⟨W.heap.size, 3, none⟩ = some (.string x.data) ∧ W1.cell? ⟨W.heap.size, 4, none⟩ = some x.v := by
  obtain ⟨F', G', a, o, h1, h2, h3, h4, h5, h6⟩ := h
  exact ⟨by rw [block_cell h3]; rfl, by rw [block_cell h3]; rfl, by rw [block_cell h3]; rfl, by rw [block_cell h3]; rfl, by rw [block_cell h3]; rfl⟩
theorem DI.write (hF : ∀ x, F x → x < W.heap.size) (hG : ∀ x, G x → x < W.heap.size) (hB : B ≤ W.heap.size) (hm : m ≤ 1000000) (h : DI B F G p q W x d r W1) (ok : Ok m d) (n : Int) (s : ByteArray) :
    Calls Try.prog 14 #[.pointer (some ⟨p, 0, none⟩), .int .i64 n, .string s] W1 fun e W2 => e = .returned (.int .i64 (opWrite n s d).1) ∧ DI B F G p q W x (opWrite n s d).2 r W2 := by
  have hs := h.size
  obtain ⟨F', G', a, o, h1, h2, h3, h4, h5, h6⟩ := h
  refine (write_u a.1 ok hm (by omega) n s).mono ?_
  rintro e W2 ⟨rfl, st⟩
  exact ⟨rfl, DI.next hF hG o h1 h2 h3 h4 h5 h6 (a.left st)⟩
theorem DI.flush (hF : ∀ x, F x → x < W.heap.size) (hG : ∀ x, G x → x < W.heap.size) (h : DI B F G p q W x d r W1) (ok : Ok m d) :
    Calls Try.prog 15 #[.pointer (some ⟨p, 0, none⟩)] W1 fun e W2 => e = .returned (.int .i64 (opFlush d).1) ∧ DI B F G p q W x (opFlush d).2 r W2 := by
  obtain ⟨F', G', a, o, h1, h2, h3, h4, h5, h6⟩ := h
  refine (flush_u a.1 ok).mono ?_
  rintro e W2 ⟨rfl, st⟩
  exact ⟨rfl, DI.next hF hG o h1 h2 h3 h4 h5 h6 (a.left st)⟩
theorem DI.crash (hF : ∀ x, F x → x < W.heap.size) (hG : ∀ x, G x → x < W.heap.size) (h : DI B F G p q W x d r W1) (ok : Ok m d) :
    Calls Try.prog 16 #[.pointer (some ⟨p, 0, none⟩), x.v] W1 fun e W2 => e = .returned (.int .i64 (opCrash x.ks d).1) ∧ DI B F G p q W x (opCrash x.ks d).2 r W2 := by
  obtain ⟨F', G', a, o, h1, h2, h3, h4, h5, h6⟩ := h
  refine (crash_u a.1 ok _ _ h4 h5).mono ?_
  rintro e W2 ⟨rfl, st⟩
  exact ⟨rfl, DI.next hF hG o h1 h2 h3 h4 h5 h6 (a.left st)⟩
theorem DI.startL (hF : ∀ x, F x → x < W.heap.size) (hG : ∀ x, G x → x < W.heap.size) (h : DI B F G p q W x d r W1) (ok : Ok m d) :
    Calls Try.prog 17 #[.pointer (some ⟨p, 0, none⟩)] W1 fun e W2 => e = .returned (.int .i64 (opStart d).1) ∧ DI B F G p q W x (opStart d).2 r W2 := by
  obtain ⟨F', G', a, o, h1, h2, h3, h4, h5, h6⟩ := h
  refine (start_u a.1 ok).mono ?_
  rintro e W2 ⟨rfl, st⟩
  exact ⟨rfl, DI.next hF hG o h1 h2 h3 h4 h5 h6 (a.left st)⟩
theorem DI.fail (hF : ∀ x, F x → x < W.heap.size) (hG : ∀ x, G x → x < W.heap.size) (hB : B ≤ W.heap.size) (hk : x.ks.length ≤ 1000000) (h : DI B F G p q W x d r W1) (ok : Ok m d) (n : Int) :
    Calls Try.prog 18 #[.pointer (some ⟨p, 0, none⟩), .int .i64 n, x.v] W1 fun e W2 => e = .returned (.int .i64 (opFail n x.ks d).1) ∧ DI B F G p q W x (opFail n x.ks d).2 r W2 := by
  have hs := h.size
  obtain ⟨F', G', a, o, h1, h2, h3, h4, h5, h6⟩ := h
  refine (fail_u a.1 ok (by omega) n _ _ h4 hk).mono ?_
  rintro e W2 ⟨rfl, st⟩
  exact ⟨rfl, DI.next hF hG o h1 h2 h3 h4 h5 h6 (a.left st)⟩
theorem DI.read (hF : ∀ x, F x → x < W.heap.size) (hG : ∀ x, G x → x < W.heap.size) (hm : m ≤ 1000000) (h : DI B F G p q W x d r W1) (ok : Ok m d) (n : Int) :
    Calls Try.prog 13 #[.pointer (some ⟨p, 0, none⟩), .int .i64 n] W1 fun e W2 => e = .returned (.tuple #[.string (opRead n d).1, .int .i64 (opRead n d).2]) ∧ DI B F G p q W x d r W2 := by
  have h0 := h
  obtain ⟨F', G', a, o, h1, h2, h3, h4, h5, h6⟩ := h
  refine (read_u a.1 ok hm n).mono ?_
  rintro e W2 ⟨rfl, st⟩
  exact ⟨rfl, h0.keepB hF hG st⟩
theorem DI.writeR (hF : ∀ x, F x → x < W.heap.size) (hG : ∀ x, G x → x < W.heap.size) (hB : B ≤ W.heap.size) (hm : m ≤ 1000000) {d0 : Dk} (h : DI B F G p q W x d r W1) (P : Pair m d0 r) (n : Int) (s : ByteArray) :
    Calls Try.prog 26 #[.pointer (some ⟨q, 0, none⟩), .int .i64 n, .string s] W1 fun e W2 => e = .returned (.int .i64 (ropWrite n s r).1) ∧ DI B F G p q W x d (ropWrite n s r).2 W2 := by
  have hs := h.size
  obtain ⟨F', G', a, o, h1, h2, h3, h4, h5, h6⟩ := h
  refine (write_r a.2.1 P hm (by omega) n s).mono ?_
  rintro e W2 ⟨rfl, st⟩
  exact ⟨rfl, DI.next hF hG o h1 h2 h3 h4 h5 h6 (a.right st)⟩
theorem DI.flushR (hF : ∀ x, F x → x < W.heap.size) (hG : ∀ x, G x → x < W.heap.size) (hB : B ≤ W.heap.size) {d0 : Dk} (h : DI B F G p q W x d r W1) (P : Pair m d0 r) :
    Calls Try.prog 27 #[.pointer (some ⟨q, 0, none⟩)] W1 fun e W2 => e = .returned (.int .i64 (ropFlush r).1) ∧ DI B F G p q W x d (ropFlush r).2 W2 := by
  have hs := h.size
  obtain ⟨F', G', a, o, h1, h2, h3, h4, h5, h6⟩ := h
  refine (flush_r a.2.1 P (by omega)).mono ?_
  rintro e W2 ⟨rfl, st⟩
  exact ⟨rfl, DI.next hF hG o h1 h2 h3 h4 h5 h6 (a.right st)⟩
theorem DI.crashR (hF : ∀ x, F x → x < W.heap.size) (hG : ∀ x, G x → x < W.heap.size) (hB : B ≤ W.heap.size) {d0 : Dk} (h : DI B F G p q W x d r W1) (P : Pair m d0 r) :
    Calls Try.prog 28 #[.pointer (some ⟨q, 0, none⟩), x.v] W1 fun e W2 => e = .returned (.int .i64 (ropCrash x.ks r).1) ∧ DI B F G p q W x d (ropCrash x.ks r).2 W2 := by
  have hs := h.size
  obtain ⟨F', G', a, o, h1, h2, h3, h4, h5, h6⟩ := h
  refine (crash_r a.2.1 P (by omega) _ _ h4).mono ?_
  rintro e W2 ⟨rfl, st⟩
  exact ⟨rfl, DI.next hF hG o h1 h2 h3 h4 h5 h6 (a.right st)⟩
theorem DI.startR (hF : ∀ x, F x → x < W.heap.size) (hG : ∀ x, G x → x < W.heap.size) (h : DI B F G p q W x d r W1) :
    Calls Try.prog 29 #[.pointer (some ⟨q, 0, none⟩)] W1 fun e W2 => e = .returned (.int .i64 (ropStart r).1) ∧ DI B F G p q W x d (ropStart r).2 W2 := by
  obtain ⟨F', G', a, o, h1, h2, h3, h4, h5, h6⟩ := h
  refine (start_r a.2.1).mono ?_
  rintro e W2 ⟨rfl, st⟩
  exact ⟨rfl, DI.next hF hG o h1 h2 h3 h4 h5 h6 (a.right st)⟩
theorem DI.failR (hF : ∀ x, F x → x < W.heap.size) (hG : ∀ x, G x → x < W.heap.size) (hB : B ≤ W.heap.size) (hk : x.ks.length ≤ 1000000) (h : DI B F G p q W x d r W1) (n : Int) :
    Calls Try.prog 30 #[.pointer (some ⟨q, 0, none⟩), .int .i64 n, x.v] W1 fun e W2 => e = .returned (.int .i64 (ropFail n x.ks r).1) ∧ DI B F G p q W x d (ropFail n x.ks r).2 W2 := by
  have hs := h.size
  obtain ⟨F', G', a, o, h1, h2, h3, h4, h5, h6⟩ := h
  refine (fail_r a.2.1 (by omega) n _ _ h4 hk).mono ?_
  rintro e W2 ⟨rfl, st⟩
  exact ⟨rfl, DI.next hF hG o h1 h2 h3 h4 h5 h6 (a.right st)⟩
theorem DI.readR (h : DI B F G p q W x d r W1) (n : Int) :
    Calls Try.prog 31 #[.pointer (some ⟨q, 0, none⟩), .int .i64 n] W1 fun e W2 => e = .returned (.tuple #[.string (ropRead n r).1, .int .i64 (ropRead n r).2]) ∧ W1 = W2 := by
  obtain ⟨F', G', a, o, h1, h2, h3, h4, h5, h6⟩ := h
  exact read_r a.2.1 n
end
/-- The document's disk's head, read. -/
theorem DI.len {B p q : Nat} {F G : Nat → Prop} {W W1 : World} {x : ActV} {d : Dk} {r : Rk} (h : DI B F G p q W x d r W1) : ∃ o c, W1.cell? ⟨q, 0, none⟩ = some (.slice o r.sure.length c) := by
  obtain ⟨F', G', ⟨_, ⟨⟨sv, lv, kv, a⟩, _⟩, _⟩, _⟩ := h
  obtain ⟨o, c, rfl⟩ := ownsRow_form a.su
  exact ⟨o, c, a.c0⟩
end Go.Proofs.Yteblobookpldfaa.Se
