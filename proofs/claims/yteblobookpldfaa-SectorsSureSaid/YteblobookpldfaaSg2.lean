/- The law's own arrays in memory. -/
import Derived.Test.YteblobookpldfaaSg1
import Derived.Test.YteblobookpldfaaOpn
import Derived.Great.Walk
import Derived.Deep.MidRow
namespace Go.Proofs.Yteblobookpldfaa.Se
open Go.RowKit Go.Shelf Go.Proofs
attribute [local go_sem] Oper.semAt_some

/-! ### Eight times 61 bools -/
def Z55 : Array Value := (List.replicate 488 (Value.bool false)).toArray
theorem info55 : (Try.prog.info? 55).map (fun i => (i.zero, i.size, i.bytes)) = some (some (.agg Z55), 488, 488) := by kernel_rfl
theorem built55 : Try.prog.built 55 [] = some Z55 := by kernel_rfl
theorem size55 : (Try.prog.info? 55).map (·.size) = some 488 := by kernel_rfl
theorem size53 : (Try.prog.info? 53).map (·.size) = some 8 := by kernel_rfl
theorem Z55_size : Z55.size = 488 := by unfold Z55; rw [List.size_toArray, List.length_replicate]
theorem Z55_get (j : Nat) (hj : j < 488) : Z55[j]? = some (.bool false) := by
  unfold Z55
  rw [List.getElem?_toArray, List.getElem?_replicate, if_pos hj]
theorem Z55_one : Z55.all (·.oneCell') = true := Go.all_oneCell_toArray (fun v hv => by rw [List.eq_of_mem_replicate hv]; rfl)
theorem run_alloc55 (w : World) : (Instr.alloc 55 true (.tuple #[])).run Try.prog w = .ok (.pointer (some ⟨w.heap.size, 0, none⟩)) (w.alloc (.cells Z55 55)) := by
  obtain ⟨i, hi, hz0, hz1, hz2⟩ := info_parts info55
  generalize Z55 = Z at *
  simp [Instr.alloc, zeroValue, typeInfo, hi, hz0, newVar, Sem.run_bind, Result.andThen, go_sem]
/-! ### The law's memory -/
abbrev bytesV (S : List UInt8) : Array Value := (S.map (fun c => Value.int .u8 (c.toNat : Int))).toArray
def BM (f : Nat → Nat → Bool) (cs : Array Value) : Prop := cs.size = 488 ∧ ∀ n j, n < 8 → j < 61 → cs[n * 61 + j]? = some (.bool (f n j))
theorem BM.zero : BM noF Z55 := ⟨Z55_size, fun n j hn hj => Z55_get _ (by omega)⟩
theorem BM.put {f : Nat → Nat → Bool} {cs : Array Value} (h : BM f cs) (n j : Nat) (hn : n < 8) (hj : j < 61) : BM (upd f n j) (cs.setIfInBounds (n * 61 + j) (.bool true)) := by
  refine ⟨by simp [h.1], fun a b ha hb => ?_⟩
  rw [Array.getElem?_setIfInBounds]
  unfold upd
  by_cases e : a = n ∧ b = j
  · obtain ⟨rfl, rfl⟩ := e
    rw [if_pos rfl, if_pos (by rw [h.1]; omega), if_pos ⟨rfl, rfl⟩]
  · rw [if_neg (by intro e2; apply e; omega), if_neg e]
    exact h.2 a b ha hb
structure MI (w0 : World) (p gs gl go : Nat) (d : Dk) (S L : List UInt8) (f : Nat → Nat → Bool) (W : World) : Prop where
  below : Below w0.heap.size w0 W
  ne : gs ≠ gl ∧ gs ≠ go ∧ gl ≠ go
  ge : w0.heap.size ≤ gs ∧ w0.heap.size ≤ gl ∧ w0.heap.size ≤ go
  disk : ∃ F, Dd w0.heap.size F p d W ∧ ¬ F gs ∧ ¬ F gl ∧ ¬ F go
  s : W.heap[gs]? = some (.cells (bytesV S) 53 (0, 0))
  l : W.heap[gl]? = some (.cells (bytesV L) 53 (0, 0))
  o : ∃ cs, W.heap[go]? = some (.cells cs 55 (0, 0)) ∧ BM f cs
section
variable {w0 W W' : World} {p gs gl go m : Nat} {d d' : Dk} {S L : List UInt8} {f : Nat → Nat → Bool} {z : Int}
theorem MI.stp {F : Nat → Prop} (h : MI w0 p gs gl go d S L f W) (hd : Dd w0.heap.size F p d W) (n1 : ¬ F gs) (n2 : ¬ F gl) (n3 : ¬ F go) (st : Stp w0.heap.size F p d' W W') : MI w0 p gs gl go d' S L f W' := by
  obtain ⟨F', h1, h2, h3⟩ := st
  obtain ⟨cs, o1, o2⟩ := h.o
  have a1 := lt_of_block h.s
  have a2 := lt_of_block h.l
  have a3 := lt_of_block o1
  exact ⟨h2.below h.below (fun x hx => (hd.2 x hx).1) (Nat.le_refl _), h.ne, h.ge, ⟨F', h1, fun h => (h3 _ h).elim n1 (fun h => by omega), fun h => (h3 _ h).elim n2 (fun h => by omega), fun h => (h3 _ h).elim n3 (fun h => by omega)⟩,
    (h2.block _ a1 n1).trans h.s, (h2.block _ a2 n2).trans h.l, cs, (h2.block _ a3 n3).trans o1, o2⟩
theorem MI.keepB (h : MI w0 p gs gl go d S L f W) (hB : Below W.heap.size W W') : MI w0 p gs gl go d S L f W' := by
  obtain ⟨F, hd, n1, n2, n3⟩ := h.disk
  obtain ⟨cs, o1, o2⟩ := h.o
  exact ⟨h.below.trans (hB.mono h.below.size), h.ne, h.ge, ⟨F, hd.keepB hB, n1, n2, n3⟩, (hB.block _ (lt_of_block h.s)).trans h.s, (hB.block _ (lt_of_block h.l)).trans h.l, cs, (hB.block _ (lt_of_block o1)).trans o1, o2⟩
theorem MI.write (h : MI w0 p gs gl go d S L f W) (ok : Ok m d) (hm : m ≤ 1000000) (n : Int) (s : ByteArray) (e : opWrite n s d = (z, d')) :
    Calls Try.prog 14 #[.pointer (some ⟨p, 0, none⟩), .int .i64 n, .string s] W fun e W' => e = .returned (.int .i64 z) ∧ MI w0 p gs gl go d' S L f W' := by
  obtain ⟨F, hd, n1, n2, n3⟩ := h.disk
  refine (write_u hd ok hm h.below.size n s).mono ?_
  rintro _ W' ⟨rfl, st⟩
  rw [e] at st ⊢
  exact ⟨rfl, h.stp hd n1 n2 n3 st⟩
theorem MI.flush (h : MI w0 p gs gl go d S L f W) (ok : Ok m d) (e : opFlush d = (z, d')) :
    Calls Try.prog 15 #[.pointer (some ⟨p, 0, none⟩)] W fun e W' => e = .returned (.int .i64 z) ∧ MI w0 p gs gl go d' S L f W' := by
  obtain ⟨F, hd, n1, n2, n3⟩ := h.disk
  refine (flush_u hd ok).mono ?_
  rintro _ W' ⟨rfl, st⟩
  rw [e] at st ⊢
  exact ⟨rfl, h.stp hd n1 n2 n3 st⟩
theorem MI.crash (h : MI w0 p gs gl go d S L f W) (ok : Ok m d) (v : Value) (ks : List Bool) (hv : KRow w0 v ks) (e : opCrash ks d = (z, d')) :
    Calls Try.prog 16 #[.pointer (some ⟨p, 0, none⟩), v] W fun e W' => e = .returned (.int .i64 z) ∧ MI w0 p gs gl go d' S L f W' := by
  obtain ⟨F, hd, n1, n2, n3⟩ := h.disk
  refine (crash_u hd ok v ks (hv.keepB h.below) (fun a n c e hn hF => by have := (hd.2 _ hF).1; have := hv.lt a n c e hn; omega)).mono ?_
  rintro _ W' ⟨rfl, st⟩
  rw [e] at st ⊢
  exact ⟨rfl, h.stp hd n1 n2 n3 st⟩
theorem MI.start (h : MI w0 p gs gl go d S L f W) (ok : Ok m d) (e : opStart d = (z, d')) :
    Calls Try.prog 17 #[.pointer (some ⟨p, 0, none⟩)] W fun e W' => e = .returned (.int .i64 z) ∧ MI w0 p gs gl go d' S L f W' := by
  obtain ⟨F, hd, n1, n2, n3⟩ := h.disk
  refine (start_u hd ok).mono ?_
  rintro _ W' ⟨rfl, st⟩
  rw [e] at st ⊢
  exact ⟨rfl, h.stp hd n1 n2 n3 st⟩
theorem MI.read (h : MI w0 p gs gl go d S L f W) (ok : Ok m d) (hm : m ≤ 1000000) (n : Int) (s : ByteArray) (e : opRead n d = (s, z)) :
    Calls Try.prog 13 #[.pointer (some ⟨p, 0, none⟩), .int .i64 n] W fun e W' => e = .returned (.tuple #[.string s, .int .i64 z]) ∧ MI w0 p gs gl go d S L f W' := by
  obtain ⟨F, hd, n1, n2, n3⟩ := h.disk
  refine (read_u hd ok hm n).mono ?_
  rintro _ W' ⟨rfl, hB⟩
  rw [e]
  exact ⟨rfl, h.keepB hB⟩
theorem MI.loose (h : MI w0 p gs gl go d S L f W) (e : d.loose = []) : Calls Try.prog 20 #[.pointer (some ⟨p, 0, none⟩)] W fun e W' => e = .returned (.int .i64 0) ∧ W = W' := by
  obtain ⟨F, hd, n1, n2, n3⟩ := h.disk
  refine (loose_u hd).mono ?_
  rintro _ W' ⟨rfl, rfl⟩
  rw [e]
  exact ⟨rfl, rfl⟩
theorem only_set {W : World} {g j : Nat} {v : Value} : OnlyF (fun b => b = g) W (W.setCell ⟨g, j, none⟩ v) := OnlyF.set (F := fun b => b = g) (OnlyF.refl _ W) (p := g) (show g = g from rfl) j v
theorem bytesV_set (S : List UInt8) (k : Nat) (c : UInt8) : (bytesV S).setIfInBounds k (.int .u8 (c.toNat : Int)) = bytesV (S.set k c) := by
  apply Array.ext'
  rw [Array.toList_setIfInBounds]
  show (S.map _).set k _ = (S.set k c).map _
  rw [List.map_set]
theorem MI.setS (h : MI w0 p gs gl go d S L f W) (k : Nat) (c : UInt8) : MI w0 p gs gl go d (S.set k c) L f (W.setCell ⟨gs, k, none⟩ (.int .u8 (c.toNat : Int))) := by
  obtain ⟨F, hd, n1, n2, n3⟩ := h.disk
  obtain ⟨cs, o1, o2⟩ := h.o
  refine ⟨h.below.setCell (p := ⟨gs, k, none⟩) h.ge.1 _, h.ne, h.ge, ⟨F, hd.other only_set (fun x hx e => n1 (e ▸ hx)), n1, n2, n3⟩, ?_, (Below.heap_setCell _ _ _ _ (fun e => h.ne.1 e.symm)).trans h.l, cs, (Below.heap_setCell _ _ _ _ (fun e => h.ne.2.1 e.symm)).trans o1, o2⟩
  rw [← bytesV_set]
  exact block_set h.s k _
theorem MI.setL (h : MI w0 p gs gl go d S L f W) (k : Nat) (c : UInt8) : MI w0 p gs gl go d S (L.set k c) f (W.setCell ⟨gl, k, none⟩ (.int .u8 (c.toNat : Int))) := by
  obtain ⟨F, hd, n1, n2, n3⟩ := h.disk
  obtain ⟨cs, o1, o2⟩ := h.o
  refine ⟨h.below.setCell (p := ⟨gl, k, none⟩) h.ge.2.1 _, h.ne, h.ge, ⟨F, hd.other only_set (fun x hx e => n2 (e ▸ hx)), n1, n2, n3⟩, (Below.heap_setCell _ _ _ _ h.ne.1).trans h.s, ?_, cs, (Below.heap_setCell _ _ _ _ (fun e => h.ne.2.2 e.symm)).trans o1, o2⟩
  rw [← bytesV_set]
  exact block_set h.l k _
theorem MI.setO (h : MI w0 p gs gl go d S L f W) (n j : Nat) (hn : n < 8) (hj : j < 61) : MI w0 p gs gl go d S L (upd f n j) (W.setCell ⟨go, n * 61 + j, none⟩ (.bool true)) := by
  obtain ⟨F, hd, n1, n2, n3⟩ := h.disk
  obtain ⟨cs, o1, o2⟩ := h.o
  exact ⟨h.below.setCell (p := ⟨go, n * 61 + j, none⟩) h.ge.2.2 _, h.ne, h.ge, ⟨F, hd.other only_set (fun x hx e => n3 (e ▸ hx)), n1, n2, n3⟩, (Below.heap_setCell _ _ _ _ h.ne.2.1).trans h.s, (Below.heap_setCell _ _ _ _ h.ne.2.2).trans h.l, _, block_set o1 _ _, o2.put n j hn hj⟩
theorem only_row {W : World} {g : Nat} {cs : Array Value} : OnlyF (fun b => b = g) W (W.setRow g cs) := ⟨rfl, rfl, rfl, by rw [size_setRow]; exact Nat.le_refl _, fun b _ hn => setRow_other W g b cs hn⟩
theorem MI.rowS (h : MI w0 p gs gl go d S L f W) (S' : List UInt8) : MI w0 p gs gl go d S' L f (W.setRow gs (bytesV S')) := by
  obtain ⟨F, hd, n1, n2, n3⟩ := h.disk
  obtain ⟨cs, o1, o2⟩ := h.o
  exact ⟨below_setRow h.below h.ge.1 _, h.ne, h.ge, ⟨F, hd.other only_row (fun x hx e => n1 (e ▸ hx)), n1, n2, n3⟩, setRow_heap _ _ _ _ _ _ h.s, (setRow_other _ _ _ _ (fun e => h.ne.1 e.symm)).trans h.l, cs, (setRow_other _ _ _ _ (fun e => h.ne.2.1 e.symm)).trans o1, o2⟩
theorem MI.rowO (h : MI w0 p gs gl go d S L f W) : MI w0 p gs gl go d S L noF (W.setRow go Z55) := by
  obtain ⟨F, hd, n1, n2, n3⟩ := h.disk
  obtain ⟨cs, o1, o2⟩ := h.o
  exact ⟨below_setRow h.below h.ge.2.2 _, h.ne, h.ge, ⟨F, hd.other only_row (fun x hx e => n3 (e ▸ hx)), n1, n2, n3⟩, (setRow_other _ _ _ _ h.ne.2.1).trans h.s, (setRow_other _ _ _ _ h.ne.2.2).trans h.l, _, setRow_heap _ _ _ _ _ _ o1, BM.zero⟩
theorem MI.cS (h : MI w0 p gs gl go d S L f W) {k : Nat} {c : UInt8} (hc : S[k]? = some c) : W.cell? ((⟨gs, 0, none⟩ : Addr).add k) = some (.int .u8 (c.toNat : Int)) ∧ W.frozen? ((⟨gs, 0, none⟩ : Addr).add k) = false := by
  rw [add_zero]
  exact ⟨by rw [block_cell h.s]; show (S.map _).toArray[k]? = _; rw [List.getElem?_toArray, List.getElem?_map, hc]; rfl, block_frozen h.s k⟩
theorem MI.cL (h : MI w0 p gs gl go d S L f W) {k : Nat} {c : UInt8} (hc : L[k]? = some c) : W.cell? ((⟨gl, 0, none⟩ : Addr).add k) = some (.int .u8 (c.toNat : Int)) ∧ W.frozen? ((⟨gl, 0, none⟩ : Addr).add k) = false := by
  rw [add_zero]
  exact ⟨by rw [block_cell h.l]; show (L.map _).toArray[k]? = _; rw [List.getElem?_toArray, List.getElem?_map, hc]; rfl, block_frozen h.l k⟩
theorem add_two (g n j : Nat) : ((⟨g, 0, none⟩ : Addr).add (n * 61)).add j = ⟨g, n * 61 + j, none⟩ := by
  rw [add_zero]
  unfold Addr.add
  split
  · next h => rw [h]; rfl
  · rfl
theorem MI.cO (h : MI w0 p gs gl go d S L f W) {n j : Nat} (hn : n < 8) (hj : j < 61) : W.cell? (((⟨go, 0, none⟩ : Addr).add (n * 61)).add j) = some (.bool (f n j)) ∧ W.frozen? (((⟨go, 0, none⟩ : Addr).add (n * 61)).add j) = false := by
  obtain ⟨cs, o1, o2⟩ := h.o
  rw [add_two]
  exact ⟨by rw [block_cell o1]; exact o2.2 n j hn hj, block_frozen o1 _⟩
end
/-- The law's memory, new. -/
theorem MI.new {w0 W : World} {p : Nat} (h : D1 w0 p (dN 8) W) : MI w0 p W.heap.size (W.heap.size + 1) (W.heap.size + 1 + 1) (dN 8) (List.replicate 8 0) (List.replicate 8 0) noF
    (((W.alloc (.cells (bytesV (List.replicate 8 0)) 53)).alloc (.cells (bytesV (List.replicate 8 0)) 53)).alloc (.cells Z55 55)) := by
  obtain ⟨h1, F, h2⟩ := h
  have hB := three_below W (.cells (bytesV (List.replicate 8 0)) 53) (.cells (bytesV (List.replicate 8 0)) 53) (.cells Z55 55)
  have hs := h1.size
  refine ⟨h1.trans (hB.mono hs), by omega, by omega, ⟨F, h2.keepB hB, fun h => ?_, fun h => ?_, fun h => ?_⟩, ?_, ?_, Z55, ?_, BM.zero⟩
  · have := (h2.2 _ h).2; omega
  · have := (h2.2 _ h).2; omega
  · have := (h2.2 _ h).2; omega
  · rw [Below.heap_alloc _ _ _ (by simp; omega), Below.heap_alloc _ _ _ (by simp)]
    exact alloc_new _ _ _ rfl
  · rw [Below.heap_alloc _ _ _ (by simp)]
    exact alloc_new _ _ _ (by simp)
  · exact alloc_new _ _ _ (by simp)
end Go.Proofs.Yteblobookpldfaa.Se
