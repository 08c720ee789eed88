/- A hasher in memory: what it holds; what may turn. -/
import Derived.Test.YtegjphfkkafomaaDoorSha3
import Derived.Maps.AppendAt
import Derived.Laws.OwnMore
namespace Go.Proofs.YtegjphfkkafomaaDoor.Sha
open Go.RowKit Go.Proofs Go.Proofs.YtegjphfkkafomaaDoor.Q Go.Proofs.YtegjphfkkafomaaDoorW.PrintWords Go.Proofs.YtegjphfkkafomaaDoorW.PrintLast Go.Proofs.YtegjphfkkafomaaDoorW.PrintMore

theorem word_congr {b c : Nat → Nat} (i : Nat) (hi : i < 16) (h : ∀ j, j < 64 → b j = c j) : word b i = word c i := by
  unfold word
  rw [h _ (by omega), h _ (by omega), h _ (by omega), h _ (by omega)]
theorem sch_congr {b c : Nat → Nat} (h : ∀ j, j < 64 → b j = c j) : ∀ n, sch b n = sch c n
  | 0 => rfl
  | n + 1 => by
    show (if n < 16 then word b n else _) :: sch b n = (if n < 16 then word c n else _) :: sch c n
    rw [sch_congr h n]
    by_cases hn : n < 16
    · rw [if_pos hn, if_pos hn, word_congr n hn h]
    · rw [if_neg hn, if_neg hn]
theorem W_congr {b c : Nat → Nat} (h : ∀ j, j < 64 → b j = c j) (n : Nat) : W b n = W c n := by
  unfold W
  rw [sch_congr h]
theorem nows_congr {b c : Nat → Nat} (h : ∀ j, j < 64 → b j = c j) (s : NS) : ∀ i, nows b s i = nows c s i
  | 0 => rfl
  | i + 1 => by
    show roundN (nows b s i) (kk i) (W b i) = roundN (nows c s i) (kk i) (W c i)
    rw [nows_congr h s i, W_congr h]
theorem blockN_congr {b c : Nat → Nat} (h : ∀ j, j < 64 → b j = c j) (s : NS) : blockN s b = blockN s c := by
  unfold blockN
  rw [nows_congr h]

/-- A text's bytes, as numbers. -/
def fB (l : List Nat) (i : Nat) : Nat := l.getD i 0
/-- The numbers behind so many blocks. -/
def stN (f : Nat → Nat) : Nat → NS
  | 0 => beginN
  | n + 1 => blockN (stN f n) (fun i => f (64 * n + i))
theorem beginN_ok : beginN.ok := by unfold NS.ok beginN; decide
theorem stN_ok (f : Nat → Nat) : ∀ n, (stN f n).ok
  | 0 => beginN_ok
  | _ + 1 => addN_ok _ _
theorem stN_congr {f g : Nat → Nat} : ∀ n, (∀ i, i < 64 * n → f i = g i) → stN f n = stN g n
  | 0, _ => rfl
  | n + 1, h => by
    show blockN (stN f n) _ = blockN (stN g n) _
    rw [stN_congr n (fun i hi => h i (by omega))]
    exact blockN_congr (fun j hj => h _ (by omega)) _
theorem fB_append (l m : List Nat) (i : Nat) (h : i < l.length) : fB (l ++ m) i = fB l i := by
  unfold fB
  rw [List.getD_eq_getElem?_getD, List.getD_eq_getElem?_getD, List.getElem?_append_left h]
theorem stN_append (l m : List Nat) (n : Nat) (h : 64 * n ≤ l.length) : stN (fB (l ++ m)) n = stN (fB l) n := stN_congr n (fun i hi => fB_append l m i (by omega))
theorem fB_lt (l : List Nat) (h : ∀ x ∈ l, x < 256) (i : Nat) : fB l i < 256 := by
  unfold fB
  by_cases hi : i < l.length
  · rw [List.getD_eq_getElem?_getD, List.getElem?_eq_getElem hi]
    exact h _ (List.getElem_mem hi)
  · rw [List.getD_eq_getElem?_getD, List.getElem?_eq_none (by omega)]
    decide

/-- Bytes as cells. -/
def cells8 (l : List Nat) : List Value := l.map fun x => Value.int .u8 ((x : Nat) : Int)
theorem cells8_length (l : List Nat) : (cells8 l).length = l.length := by unfold cells8; simp
theorem cells8_append (l m : List Nat) : cells8 (l ++ m) = cells8 l ++ cells8 m := by unfold cells8; simp
theorem cells8_get (l : List Nat) (i : Nat) (h : i < l.length) : (cells8 l)[i]? = some (.int .u8 ((fB l i : Nat) : Int)) := by
  unfold cells8 fB
  rw [List.getElem?_map, List.getElem?_eq_getElem h, List.getD_eq_getElem?_getD, List.getElem?_eq_getElem h]
  rfl
theorem cells8_one (l : List Nat) : ∀ u ∈ cells8 l, u.oneCell' = true := by
  intro u hu
  obtain ⟨x, _, rfl⟩ := List.mem_map.1 hu
  rfl

/-- Nothing has turned but block p, and the block of slice v. -/
structure Only (p : Nat) (v : Value) (w w' : World) : Prop where
  os : w'.os = w.os
  tape : w'.tape = w.tape
  output : w'.output = w.output
  size : w.heap.size ≤ w'.heap.size
  block : ∀ k, k < w.heap.size → k ≠ p → v.ownBlock ≠ some k → w'.heap[k]? = w.heap[k]?

theorem Only.refl (p : Nat) (v : Value) (w : World) : Only p v w w := ⟨rfl, rfl, rfl, Nat.le_refl _, fun _ _ _ _ => rfl⟩
theorem Only.then {p : Nat} {v : Value} {a b c : World} (h : Only p v a b) (k : Only p v b c) : Only p v a c :=
  ⟨k.os.trans h.os, k.tape.trans h.tape, k.output.trans h.output, Nat.le_trans h.size k.size, fun i hi h1 h2 => (k.block i (Nat.lt_of_lt_of_le hi h.size) h1 h2).trans (h.block i hi h1 h2)⟩
/-- A step whose slice is a younger one. -/
theorem Only.then' {p : Nat} {v u : Value} {a b c : World} (h : Only p v a b) (k : Only p u b c) (hu : ∀ g, u.ownBlock = some g → v.ownBlock = some g ∨ a.heap.size ≤ g) : Only p v a c :=
  ⟨k.os.trans h.os, k.tape.trans h.tape, k.output.trans h.output, Nat.le_trans h.size k.size, fun i hi h1 h2 => (k.block i (Nat.lt_of_lt_of_le hi h.size) h1 (fun e => by
    rcases hu i e with h3 | h3
    · exact h2 h3
    · omega)).trans (h.block i hi h1 h2)⟩
theorem Only.of_below {p : Nat} {v : Value} {a b : World} (h : Below a.heap.size a b) : Only p v a b := ⟨h.os, h.tape, h.output, h.size, fun k hk _ _ => h.block k hk⟩
theorem Only.of_grown {p : Nat} {v : Value} {a b : World} (h : a.grownBy b v.ownBlock) : Only p v a b := ⟨h.os, h.tape, h.output, h.size, fun k hk _ h2 => h.block k hk (fun e => h2 e.symm)⟩
theorem Only.setCell {p : Nat} {v : Value} {a b : World} (h : Only p v a b) (o : Nat) (x : Value) : Only p v a (b.setCell ⟨p, o, none⟩ x) :=
  h.then ⟨rfl, rfl, rfl, by simp [World.setCell], fun k _ hk _ => Below.heap_setCell _ _ _ _ hk⟩
theorem Only.drewN {p : Nat} {v : Value} {a b : World} (h : Only p v a b) (n : Nat) : Only p v a (b.drewN n) := ⟨h.os, h.tape, h.output, h.size, h.block⟩
/-- If both are of the call's own. -/
theorem Only.below {p : Nat} {v : Value} {B : Nat} {a b : World} (h : Only p v a b) (hB : B ≤ a.heap.size) (hp : B ≤ p) (hv : ∀ g, v.ownBlock = some g → B ≤ g) : Below B a b :=
  ⟨h.os, h.tape, h.output, h.size, fun k hk => h.block k (by omega) (by omega) (fun e => by have := hv k e; omega)⟩

theorem Laid.of {w w' : World} (h : Laid w) (h0 : w'.heap[0]? = w.heap[0]?) (h1 : w'.heap[1]? = w.heap[1]?) : Laid w' := by
  obtain ⟨⟨t, f, e⟩, ⟨t', f', e'⟩⟩ := h
  exact ⟨⟨t, f, h0.trans e⟩, ⟨t', f', h1.trans e'⟩⟩
theorem Laid.lt {w : World} (h : Laid w) : 1 < w.heap.size := by
  obtain ⟨_, ⟨t', f', e'⟩⟩ := h
  rcases Nat.lt_or_ge 1 w.heap.size with h1 | h1
  · exact h1
  · rw [Array.getElem?_eq_none h1] at e'
    cases e'
theorem Laid.of_below {w w' : World} {B : Nat} (h : Laid w) (hB : Below B w w') (h2 : 2 ≤ B) : Laid w' := h.of (hB.block 0 (by omega)) (hB.block 1 (by omega))

/-- The hasher at block p has taken these bytes; v is its rest; z is the count in it. -/
structure HAt (w : World) (p : Nat) (v : Value) (l : List Nat) (z : Int) : Prop where
  cells : w.heap[p]? = some (.cells #[.bool true, .int .u32 ((stN (fB l) (l.length / 64)).a : Int), .int .u32 ((stN (fB l) (l.length / 64)).b : Int), .int .u32 ((stN (fB l) (l.length / 64)).c : Int), .int .u32 ((stN (fB l) (l.length / 64)).d : Int),
    .int .u32 ((stN (fB l) (l.length / 64)).e : Int), .int .u32 ((stN (fB l) (l.length / 64)).f : Int), .int .u32 ((stN (fB l) (l.length / 64)).g : Int), .int .u32 ((stN (fB l) (l.length / 64)).h : Int), v, .int .i64 z] 39 (0, 0))
  own : w.ownsRow 2 5 1 v (l.length % 64) (cells8 (l.drop (64 * (l.length / 64))))
  ne : v.ownBlock ≠ some p
  two : 2 ≤ p
  small : ∀ x ∈ l, x < 256

theorem HAt.lt {w : World} {p : Nat} {v : Value} {l : List Nat} {z : Int} (h : HAt w p v l z) : p < w.heap.size := by
  rcases Nat.lt_or_ge p w.heap.size with h1 | h1
  · exact h1
  · have := h.cells
    rw [Array.getElem?_eq_none h1] at this
    cases this
theorem ownsRow_block {w w' : World} {base : Nat} {e : TypeId} {size : Nat} {v : Value} {n : Nat} {xs : List Value} (h : w.ownsRow base e size v n xs) (hb : ∀ g, v.ownBlock = some g → w'.heap[g]? = w.heap[g]?) : w'.ownsRow base e size v n xs := by
  refine ⟨h.1, ?_⟩
  rcases h.2 with h2 | ⟨g, cap, cur, rfl, hg, hh, r⟩
  · exact .inl h2
  · exact .inr ⟨g, cap, cur, rfl, hg, by rw [hb g rfl]; exact hh, r⟩
/-- Another hasher is as it was. -/
theorem HAt.keep {w w' : World} {p q : Nat} {v u : Value} {l : List Nat} {z : Int} (h : HAt w q u l z) (k : Only p v w w') (h1 : q ≠ p) (h2 : v.ownBlock ≠ some q) (h3 : u.ownBlock ≠ some p) (h4 : ∀ g, u.ownBlock = some g → v.ownBlock ≠ some g) : HAt w' q u l z where
  cells := by rw [k.block q h.lt h1 h2]; exact h.cells
  own := ownsRow_block h.own (fun g hg => k.block g (h.own.lt g hg).2 (fun e => h3 (e ▸ hg)) (h4 g hg))
  ne := h.ne
  two := h.two
  small := h.small
theorem HAt.keepB {w w' : World} {q : Nat} {u : Value} {l : List Nat} {z : Int} (h : HAt w q u l z) (k : Below w.heap.size w w') : HAt w' q u l z where
  cells := by rw [k.block q h.lt]; exact h.cells
  own := ownsRow_block h.own (fun g hg => k.block g (h.own.lt g hg).2)
  ne := h.ne
  two := h.two
  small := h.small

end Go.Proofs.YtegjphfkkafomaaDoor.Sha
