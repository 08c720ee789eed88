/- What is taken stands apart: the state of the law's walk. -/
import Derived.Test.YtidnkckfkgaooaaAl24
import Derived.Test.YtidnkckfkgaooaaAlE
namespace Go.Proofs.Ytidnkckfkgaooaa.Al
open Go.RowKit Go.Shelf Go.Proofs Go.Proofs.Ytidnkckfkgaooaa.Ext Go.Proofs.Ytidnkckfkgaooaa.Pure Go.Proofs.YtidnkckfkgaooaaW.PrintWords Go.Proofs.YtidnkckfkgaooaaW.PrintLast Go.Proofs.YtidnkckfkgaooaaW.PrintMore

/-- Bytes that came in. -/
def U8Row (w : World) (v : Value) (A : List Nat) : Prop := (v = .slice none 0 0 ∧ A = []) ∨ ∃ a cap, v = .slice (some a) A.length cap ∧ ∀ (i x : Nat), A[i]? = some x → w.cell? (a.add i) = some (.int .u8 (x : Int)) ∧ x < 256
theorem U8Row.form {w : World} {v : Value} {A : List Nat} (h : U8Row w v A) : ∃ o c, v = .slice o A.length c := by
  rcases h with ⟨rfl, rfl⟩ | ⟨a, c, rfl, _⟩
  · exact ⟨none, 0, rfl⟩
  · exact ⟨some a, c, rfl⟩
theorem U8Row.at' {w : World} {o : Option Addr} {n c : Nat} {A : List Nat} (h : U8Row w (.slice o n c) A) (i : Nat) (x : Nat) (hi : A[i]? = some x) : ∃ a, o = some a ∧ w.cell? (a.add i) = some (.int .u8 (x : Int)) ∧ x < 256 := by
  rcases h with ⟨h1, rfl⟩ | ⟨a, cap, h1, h2⟩
  · cases hi
  · obtain ⟨rfl, rfl, rfl⟩ := Value.slice.inj h1
    exact ⟨a, rfl, h2 i x hi⟩
theorem U8Row.keepB {w w' : World} {v : Value} {A : List Nat} (h : U8Row w v A) (hB : Below w.heap.size w w') : U8Row w' v A := by
  rcases h with h | ⟨a, cap, h1, h2⟩
  · exact .inl h
  · exact .inr ⟨a, cap, h1, fun i x hi => ⟨(hB.cell (block_lt_of_cell (h2 i x hi).1)).trans (h2 i x hi).1, (h2 i x hi).2⟩⟩
/-- A map and a list of bools, both of the call's own. -/
structure ApI (w : World) (p g N : Nat) (s : ByteArray) (f : Nat → Bool) (W : World) : Prop where
  below : Below w.heap.size w W
  hp : w.heap.size ≤ p
  m : MapAt W p N s
  used : W.ownsRow w.heap.size 4 1 (.slice (some ⟨g, 0, none⟩) N N) N (bitsV f N)
theorem ApI.hg {w W : World} {p g N : Nat} {s : ByteArray} {f : Nat → Bool} (h : ApI w p g N s f W) : w.heap.size ≤ g ∧ g < W.heap.size := h.used.lt g rfl
theorem ApI.ne {w W : World} {p g N : Nat} {s : ByteArray} {f : Nat → Bool} (h : ApI w p g N s f W) : p ≠ g := by
  rintro rfl
  rcases h.used.2 with ⟨e, _⟩ | ⟨g', cap', cur, e, _, hg, _⟩
  · cases e
  · obtain ⟨e1, _, _⟩ := Value.slice.inj e
    obtain rfl : p = g' := by simpa using e1
    have := (show W.heap[p]? = _ from h.m).symm.trans hg
    simp at this
theorem ApI.keepB {w W W' : World} {p g N : Nat} {s : ByteArray} {f : Nat → Bool} (h : ApI w p g N s f W) (hB : Below W.heap.size W W') : ApI w p g N s f W' :=
  ⟨h.below.trans (hB.mono h.below.size), h.hp, h.m.keepB hB, ownsRow_block h.used (fun k hk => hB.block k (h.used.lt k hk).2)⟩
theorem ApI.only {w W W' : World} {p g N : Nat} {s t : ByteArray} {f : Nat → Bool} (h : ApI w p g N s f W) (k : OnlyAt p W W') (hm : MapAt W' p N t) : ApI w p g N t f W' :=
  ⟨k.below h.below h.hp h.below.size, h.hp, hm, ownsRow_block h.used (fun j hj => k.block j (h.used.lt j hj).2 (fun e => h.ne (by
    have : g = j := by simpa [Value.ownBlock] using hj
    rw [this, e])))⟩
theorem ApI.bit {w W : World} {p g N : Nat} {s : ByteArray} {f : Nat → Bool} (h : ApI w p g N s f W) (i : Nat) (hi : i < N) : W.cell? ((⟨g, 0, none⟩ : Addr).add i) = some (.bool (f i)) := by
  rw [add_zero, h.used.cellAt i (by omega), bitsV_get f N i hi]
theorem ApI.frozen {w W : World} {p g N : Nat} {s : ByteArray} {f : Nat → Bool} (h : ApI w p g N s f W) (i : Nat) : W.frozen? ((⟨g, 0, none⟩ : Addr).add i) = false := by
  rw [add_zero]
  exact h.used.frozenAt i
theorem ApI.set {w W : World} {p g N : Nat} {s : ByteArray} {f : Nat → Bool} (h : ApI w p g N s f W) (i : Nat) (b : Bool) :
    ApI w p g N s (fun j => if j = i then b else f j) (W.setCell ((⟨g, 0, none⟩ : Addr).add i) (.bool b)) ∧ OnlyAt g W (W.setCell ((⟨g, 0, none⟩ : Addr).add i) (.bool b)) := by
  rw [add_zero]
  obtain ⟨h1, _⟩ := h.used.stored i (.bool b)
  rw [bitsV_set] at h1
  refine ⟨⟨h.below.setCell (p := ⟨g, i, none⟩) h.hg.1 _, h.hp, ?_, h1⟩, (OnlyAt.refl g W).set i _⟩
  have := h.m
  unfold MapAt at *
  rw [Below.heap_setCell _ _ _ _ (show p ≠ g from h.ne)]
  exact this
theorem ApI.congr {w W : World} {p g N : Nat} {s : ByteArray} {f k : Nat → Bool} (h : ApI w p g N s f W) (e : ∀ i, i < N → f i = k i) : ApI w p g N s k W :=
  ⟨h.below, h.hp, h.m, by rw [← bitsV_congr e]; exact h.used⟩
/-- A row of extents that is none of the two. -/
def RowI (W : World) (p g : Nat) (v : Value) (L : List (Int × Int)) : Prop := ExRow W v L ∧ ∀ a l c, v = .slice (some a) l c → 0 < l → a.block ≠ p ∧ a.block ≠ g
theorem RowI.only {W W' : World} {p g q : Nat} {v : Value} {L : List (Int × Int)} (h : RowI W p g v L) (k : OnlyAt q W W') (hq : q = p ∨ q = g) : RowI W' p g v L :=
  ⟨h.1.keep (fun a l c e hl => by
    have := h.2 a l c e hl
    rcases hq with rfl | rfl
    · exact this.1
    · exact this.2) k, h.2⟩
theorem RowI.keepB {W W' : World} {p g : Nat} {v : Value} {L : List (Int × Int)} (h : RowI W p g v L) (hB : Below W.heap.size W W') : RowI W' p g v L := ⟨h.1.keepB hB, h.2⟩
/-- Take. -/
theorem ApI.take {w W : World} {p g N : Nat} {s : ByteArray} {f : Nat → Bool} (h : ApI w p g N s f W) (hN : N ≤ 4096) (hs : s.size ≤ 1000) (n : Int) (hn : I64 n) :
    Calls Try.prog 26 #[.pointer (some ⟨p, 0, none⟩), .int .i64 n] W fun e W' => ∃ v, e = .returned (.tuple #[v, .bool (decide (0 < (takeL s N n).length))]) ∧ RowI W' p g v (takeL s N n) ∧ ApI w p g N (takeS s N n) f W' := by
  refine (take_calls W p N s n h.m hN hs hn).mono ?_
  rintro e W' ⟨v, rfl, hr, hv, hm, hO⟩
  have h1 := lt_of_block h.m
  have h2 := h.hg.2
  exact ⟨v, rfl, ⟨hr, fun a l c e hl => by have := hv a l c e hl; exact ⟨by omega, by omega⟩⟩, h.only hO hm⟩
/-- Give. -/
theorem ApI.give {w W : World} {p g N : Nat} {s t : ByteArray} {f : Nat → Bool} {v : Value} {L : List (Int × Int)} (h : ApI w p g N s f W) (hr : RowI W p g v L) (hN : N ≤ 4096) (h1 : 1 ≤ N) (hs : s.size ≤ 1000) (hL : L.length ≤ 8) (hb : ∀ x ∈ L, inE N x) (b : Bool) (hg : (giveE N L s).isSome = b) (ht : (giveE N L s).getD s = t) :
    Calls Try.prog 28 #[.pointer (some ⟨p, 0, none⟩), v] W fun e W' => e = .returned (.bool b) ∧ RowI W' p g v L ∧ ApI w p g N t f W' := by
  refine (give_calls W p N s v L h.m h1 hN hs hr.1 (by omega) (fun x hx => by
    have := hb x hx
    unfold inE at this
    unfold I64
    omega)).mono ?_
  rintro e W' ⟨rfl, hm, hO⟩
  rw [hg]
  rw [ht] at hm
  exact ⟨rfl, hr.only hO (.inl rfl), h.only hO hm⟩
/-! ### Along the extents -/
theorem rise_at : ∀ (L : List (Int × Int)) (e : Int) (k : Nat) (x : Int × Int), RiseL L e → L[k]? = some x → endE (L.take k) e < x.1 ∧ 1 ≤ x.2
  | [], _, _, _, _, h => by simp at h
  | y :: r, e, 0, x, h, hx => by
    simp at hx
    subst hx
    exact ⟨h.1, h.2.1⟩
  | y :: r, e, k + 1, x, h, hx => rise_at r (y.1 + y.2) k x h.2.2 (by simpa using hx)
theorem take_snoc {L : List (Int × Int)} {k : Nat} {x : Int × Int} (hx : L[k]? = some x) : L.take (k + 1) = L.take k ++ [x] := by
  rw [List.take_add_one, hx]
  rfl
theorem sum_le {N : Nat} : ∀ (L : List (Int × Int)) (e : Int), RiseL L e → (∀ x ∈ L, inE N x) → 0 ≤ sumE L ∧ sumE L ≤ (N : Int) * (L.length : Int)
  | [], _, _, _ => by simp [sumE]
  | x :: r, e, h, hL => by
    have hx := hL x List.mem_cons_self
    unfold inE at hx
    have ih := sum_le r (x.1 + x.2) h.2.2 (fun y hy => hL y (List.mem_cons_of_mem x hy))
    show 0 ≤ x.2 + sumE r ∧ x.2 + sumE r ≤ (N : Int) * ((r.length + 1 : Nat) : Int)
    have e2 : (N : Int) * ((r.length + 1 : Nat) : Int) = (N : Int) * (r.length : Int) + (N : Int) := by rw [Int.natCast_add, Int.mul_add]; simp
    omega
theorem cov_take {L : List (Int × Int)} {k : Nat} {x : Int × Int} (hx : L[k]? = some x) (i : Nat) : cov (L.take (k + 1)) i = true ↔ cov (L.take k) i = true ∨ (x.1 ≤ (i : Int) ∧ (i : Int) < x.1 + x.2) := by
  rw [take_snoc hx, cov_snoc, Bool.or_eq_true, Bool.and_eq_true, decide_eq_true_eq, decide_eq_true_eq]
theorem cov_mem : ∀ (L : List (Int × Int)) (y : Int × Int) (i : Nat), y ∈ L → y.1 ≤ (i : Int) → (i : Int) < y.1 + y.2 → cov L i = true
  | [], _, _, h, _, _ => by cases h
  | x :: r, y, i, h, h1, h2 => by
    rw [cov_cons]
    rcases List.mem_cons.1 h with rfl | h
    · exact .inl ⟨h1, h2⟩
    · exact .inr (cov_mem r y i h h1 h2)
/-- In use behind so many extents, and so many blocks of the next one. -/
def covF (L : List (Int × Int)) (k F j : Nat) (f : Nat → Bool) (i : Nat) : Bool := cov (L.take k) i || (decide (F ≤ i) && decide (i < F + j)) || f i
theorem covF_step (L : List (Int × Int)) (k F j : Nat) (f : Nat → Bool) (i : Nat) : (if i = F + j then true else covF L k F j f i) = covF L k F (j + 1) f i := by
  unfold covF
  by_cases e : i = F + j
  · subst e
    rw [if_pos rfl, decide_eq_true (show F ≤ F + j by omega), decide_eq_true (show F + j < F + (j + 1) by omega)]
    simp
  · rw [if_neg e, show decide (i < F + (j + 1)) = decide (i < F + j) from decide_eq_decide.2 (by omega)]
theorem covF_next {L : List (Int × Int)} {k F C : Nat} (hx : L[k]? = some ((F : Int), (C : Int))) (f : Nat → Bool) (i : Nat) : covF L k F C f i = covF L (k + 1) 0 0 f i := by
  unfold covF
  have h := cov_take hx i
  simp only at h
  have e : (cov (L.take k) i || (decide (F ≤ i) && decide (i < F + C))) = cov (L.take (k + 1)) i := by
    rw [Bool.eq_iff_iff, h, Bool.or_eq_true, Bool.and_eq_true, decide_eq_true_eq, decide_eq_true_eq]
    exact or_congr Iff.rfl (by omega)
  rw [e, show decide (i < 0 + 0) = false from decide_eq_false (by omega), Bool.and_false, Bool.or_false]
theorem covF_zero (L : List (Int × Int)) (k F G : Nat) (f : Nat → Bool) (i : Nat) : covF L k F 0 f i = covF L k G 0 f i := by
  unfold covF
  rw [show (decide (F ≤ i) && decide (i < F + 0)) = false from by rw [Bool.and_eq_false_iff, decide_eq_false_iff_not, decide_eq_false_iff_not]; omega, show (decide (G ≤ i) && decide (i < G + 0)) = false from by rw [Bool.and_eq_false_iff, decide_eq_false_iff_not, decide_eq_false_iff_not]; omega]
theorem covF_start (L : List (Int × Int)) (f : Nat → Bool) (i : Nat) : covF L 0 0 0 f i = f i := by
  unfold covF
  rw [List.take_zero, show cov [] i = false from rfl, decide_eq_false (show ¬ i < 0 + 0 by omega), Bool.and_false]
  rfl
theorem covF_all (L : List (Int × Int)) (k : Nat) (hk : L.length ≤ k) (f : Nat → Bool) (i : Nat) : covF L k 0 0 f i = if cov L i = true then true else f i := by
  unfold covF
  rw [List.take_of_length_le hk, decide_eq_false (show ¬ i < 0 + 0 by omega), Bool.and_false, Bool.or_false]
  cases cov L i
  · rfl
  · rfl
end Go.Proofs.Ytidnkckfkgaooaa.Al
