/- Two hashers at once. -/
import Derived.Test.YtegjphfkkafomaaDoorSha17
namespace Go.Proofs.YtegjphfkkafomaaDoor.Sha
open Go.RowKit Go.Proofs Go.Proofs.YtegjphfkkafomaaDoor.Q Go.Proofs.YtegjphfkkafomaaDoorW.PrintWords Go.Proofs.YtegjphfkkafomaaDoorW.PrintLast Go.Proofs.YtegjphfkkafomaaDoorW.PrintMore

/-- One hasher of the call's own. -/
structure HI (w : World) (p : Nat) (u : Value) (l : List Nat) (z : Int) (w' : World) : Prop where
  below : Below w.heap.size w w'
  laid : Laid w'
  h : HAt w' p u l z
  hp : w.heap.size ≤ p
  ub : ∀ g, u.ownBlock = some g → w.heap.size ≤ g
theorem HI.keepB {w w' w'' : World} {p : Nat} {u : Value} {l : List Nat} {z : Int} (H : HI w p u l z w') (hB : Below w'.heap.size w' w'') : HI w p u l z w'' :=
  ⟨H.below.trans (hB.mono H.below.size), H.laid.of_below hB H.laid.lt, H.h.keepB hB, H.hp, H.ub⟩
theorem HI.write {w w' w'' : World} {p : Nat} {u u' : Value} {l l' : List Nat} {z z' : Int} (J : HI w p u l z w') (hlt : 1 < w.heap.size) (H : HAt w'' p u' l' z') (hf : ∀ g, u'.ownBlock = some g → w'.heap.size ≤ g) (ho : Only p u w' w'') : HI w p u' l' z' w'' := by
  have hp := J.hp
  have hs := J.below.size
  exact ⟨J.below.trans (ho.below hs hp J.ub), J.laid.of (ho.block 0 (by omega) (by omega) (fun e => by have := J.ub 0 e; omega)) (ho.block 1 (by omega) (by omega) (fun e => by have := J.ub 1 e; omega)), H, hp, fun g hg => by have := hf g hg; omega⟩
/-- Two hashers of the call's own, that share nothing. -/
structure JI (w : World) (p : Nat) (u : Value) (l : List Nat) (z : Int) (q : Nat) (v : Value) (m : List Nat) (y : Int) (w' : World) : Prop where
  below : Below w.heap.size w w'
  laid : Laid w'
  h : HAt w' p u l z
  c : HAt w' q v m y
  hp : w.heap.size ≤ p
  hq : w.heap.size ≤ q
  pq : p ≠ q
  uq : u.ownBlock ≠ some q
  vp : v.ownBlock ≠ some p
  uv : ∀ g, v.ownBlock = some g → u.ownBlock ≠ some g
  ub : ∀ g, u.ownBlock = some g → w.heap.size ≤ g
  vb : ∀ g, v.ownBlock = some g → w.heap.size ≤ g
theorem JI.swap {w w' : World} {p q : Nat} {u v : Value} {l m : List Nat} {z y : Int} (J : JI w p u l z q v m y w') : JI w q v m y p u l z w' :=
  ⟨J.below, J.laid, J.c, J.h, J.hq, J.hp, J.pq.symm, J.vp, J.uq, fun g h1 h2 => J.uv g h2 h1, J.vb, J.ub⟩
theorem JI.left {w w' : World} {p q : Nat} {u v : Value} {l m : List Nat} {z y : Int} (J : JI w p u l z q v m y w') : HI w p u l z w' := ⟨J.below, J.laid, J.h, J.hp, J.ub⟩
theorem JI.keepB {w w' w'' : World} {p q : Nat} {u v : Value} {l m : List Nat} {z y : Int} (J : JI w p u l z q v m y w') (hB : Below w'.heap.size w' w'') : JI w p u l z q v m y w'' :=
  ⟨J.below.trans (hB.mono J.below.size), J.laid.of_below hB J.laid.lt, J.h.keepB hB, J.c.keepB hB, J.hp, J.hq, J.pq, J.uq, J.vp, J.uv, J.ub, J.vb⟩
theorem JI.write {w w' w'' : World} {p q : Nat} {u v u' : Value} {l m l' : List Nat} {z y z' : Int} (J : JI w p u l z q v m y w') (hlt : 1 < w.heap.size) (H : HAt w'' p u' l' z') (hf : ∀ g, u'.ownBlock = some g → w'.heap.size ≤ g) (ho : Only p u w' w'') : JI w p u' l' z' q v m y w'' := by
  have L := J.left.write hlt H hf ho
  have hq := J.c.lt
  exact ⟨L.below, L.laid, H, J.c.keep ho J.pq.symm J.uq J.vp J.uv, J.hp, J.hq, J.pq, fun e => by have := hf q e; omega, J.vp, fun g hg e => by have := hf g e; have := (J.c.own.lt g hg).2; omega, L.ub, J.vb⟩
theorem HI.copy {w w' w'' : World} {p : Nat} {u v : Value} {l : List Nat} {z : Int} (H : HI w p u l z w') (C : HAt w'' w'.heap.size v l z) (hf : ∀ g, v.ownBlock = some g → w'.heap.size < g) (hB : Below w'.heap.size w' w'') : JI w p u l z w'.heap.size v l z w'' := by
  have L := H.keepB hB
  have hp := H.h.lt
  have hs := H.below.size
  exact ⟨L.below, L.laid, L.h, C, H.hp, hs, by omega, fun e => by have := (H.h.own.lt _ e).2; omega, fun e => by have := hf _ e; omega, fun g hg e => by have := hf g hg; have := (H.h.own.lt g e).2; omega, H.ub, fun g hg => by have := hf g hg; omega⟩
theorem HI.of_new {w w' : World} {v : Value} {l : List Nat} {z : Int} (hL : Laid w) (H : HAt w' w.heap.size v l z) (hv : v.ownBlock = none) (hB : Below w.heap.size w w') : HI w w.heap.size v l z w' :=
  ⟨hB, hL.of_below hB hL.lt, H, Nat.le_refl _, fun g hg => by rw [hv] at hg; cases hg⟩

theorem byN_extract (s : ByteArray) (a b : Nat) : byN (s.extract a b) = ((byN s).take b).drop a := by
  unfold byN
  rw [ByteArray.data_extract, Array.toList_extract, List.extract_eq_drop_take', List.map_drop, List.map_take]
theorem byN_parts (s : ByteArray) (k : Nat) : byN (s.extract 0 k) ++ byN (s.extract k s.size) = byN s := by
  rw [byN_extract, byN_extract, List.drop_zero, List.take_of_length_le (i := s.size) (l := byN s) (by rw [byN_length]; exact Nat.le_refl _), List.take_append_drop]
end Go.Proofs.YtegjphfkkafomaaDoor.Sha
