/- Loose writes, the last one first: the iterator's walk. -/
import Derived.Test.YteblobookpldfaaSeK
import Derived.RangeFuncNested
import Derived.RangeFuncKeeps
import Derived.RangeFuncWrites
import Derived.RangeFuncBox
import Derived.RangeFuncCalls
import Derived.RangeFuncBound
import Derived.RangeFuncLeaves
import Derived.OwnWalkIn
import Derived.TacticsInMore
import Derived.LoopNIn
import Derived.LoopIn
import Derived.OrdersIn
import Derived.ControlIn
namespace Go.Proofs.Yteblobookpldfaa.Se
open Go.RowKit Go.Shelf Go.Proofs
attribute [local go_sem] Oper.semAt_some

/-- Loose writes in memory, read. -/
def LRow (w : World) (g : Nat) (v : Value) (L : List (Nat × ByteArray)) : Prop := (v = .slice none 0 0 ∧ L = []) ∨ ∃ c cs t fr, v = .slice (some ⟨g, 0, none⟩) L.length c ∧ w.heap[g]? = some (.cells cs t fr) ∧ ∀ i x, L[i]? = some x → cs[i * 2]? = some (.int .i64 (x.1 : Int)) ∧ cs[i * 2 + 1]? = some (.string x.2)
/-- Two blocks stay. -/
def KpM (p Bm : Nat) (W W' : World) : Prop := ∀ k, (k = p ∨ k = Bm) → ∀ cs t fr, W.heap[k]? = some (.cells cs t fr) → W'.heap[k]? = some (.cells cs t fr)
theorem KpM.refl (p Bm : Nat) (W : World) : KpM p Bm W W := fun _ _ _ _ _ h => h
theorem KpM.trans {p Bm : Nat} {A B C : World} (h : KpM p Bm A B) (k : KpM p Bm B C) : KpM p Bm A C := fun i hi cs t fr hc => k i hi cs t fr (h i hi cs t fr hc)
theorem KpM.putObj {p Bm : Nat} (W : World) (l : Nat) (o o' : Obj) (hl : W.heap[l]? = some o) (ho : o.isCells = false) : KpM p Bm W (W.putObj l o') := fun k _ cs t fr hc => by
  by_cases e : k = l
  · subst e
    rw [hc] at hl
    obtain rfl := Option.some.inj hl
    cases ho
  · rw [World.putObj_heap_other e]
    exact hc
theorem LRow.kp {W W' : World} {g Bm : Nat} {v : Value} {L : List (Nat × ByteArray)} (h : LRow W g v L) (k : KpM g Bm W W') : LRow W' g v L := by
  rcases h with h | ⟨c, cs, t, fr, h1, h2, h3⟩
  · exact .inl h
  · exact .inr ⟨c, cs, t, fr, h1, k g (.inl rfl) _ _ _ h2, h3⟩
theorem LRow.keepB {W W' : World} {g : Nat} {v : Value} {L : List (Nat × ByteArray)} (h : LRow W g v L) (hB : Below W.heap.size W W') : LRow W' g v L := by
  rcases h with h | ⟨c, cs, t, fr, h1, h2, h3⟩
  · exact .inl h
  · exact .inr ⟨c, cs, t, fr, h1, (hB.block _ (lt_of_block h2)).trans h2, h3⟩
theorem LRow.form {W : World} {g : Nat} {v : Value} {L : List (Nat × ByteArray)} (h : LRow W g v L) : ∃ o c, v = .slice o L.length c := by
  rcases h with ⟨rfl, rfl⟩ | ⟨c, cs, t, fr, rfl, _⟩
  · exact ⟨none, 0, rfl⟩
  · exact ⟨_, _, rfl⟩
theorem LRow.at' {W : World} {g n c : Nat} {o : Option Addr} {L : List (Nat × ByteArray)} (h : LRow W g (.slice o n c) L) (i : Nat) (x : Nat × ByteArray) (hi : L[i]? = some x) :
    o = some ⟨g, 0, none⟩ ∧ W.cell? ((⟨g, 0, none⟩ : Addr).add (i * 2)) = some (.int .i64 (x.1 : Int)) ∧ W.cell? ⟨((⟨g, 0, none⟩ : Addr).add (i * 2)).block, ((⟨g, 0, none⟩ : Addr).add (i * 2)).off + 1, none⟩ = some (.string x.2) := by
  rcases h with ⟨_, rfl⟩ | ⟨c', cs, t, fr, e, h2, h3⟩
  · cases hi
  · obtain ⟨e1, _, _⟩ := Value.slice.inj e
    refine ⟨e1, ?_, ?_⟩
    · rw [add_zero, block_cell h2]
      exact (h3 i x hi).1
    · rw [add_zero, block_cell h2]
      exact (h3 i x hi).2
/-- An element as the loop's body gets it. -/
def wrV (L : List (Nat × ByteArray)) (i : Nat) : Nat × ByteArray := L.getD i (0, ⟨#[]⟩)
abbrev encW (L : List (Nat × ByteArray)) (i : Nat) : Array Value := #[.int .i64 (i : Int), .agg #[.int .i64 ((wrV L i).1 : Int), .string (wrV L i).2]]
set_option maxRecDepth 100000 in
set_option maxHeartbeats 2000000 in
theorem back_in (n : Nat) (hn : 1 ≤ n) (l g Bm : Nat) (v : Value) (L : List (Nat × ByteArray)) (hL : L.length ≤ 1000000) (J Jx : List Nat → World → Prop)
    (hY : ∀ pre x W, x < L.length → J pre W → pre.length < L.length → YieldAt Fence.wide (n - 1) Try.prog l (encW L x) W fun e W' =>
      (e = .returned (.bool true) ∧ J (pre ++ [x]) W' ∧ KpM g Bm W W') ∨ (e = .returned (.bool false) ∧ Jx (pre ++ [x]) W'))
    (W : World) (hm : LRow W g v L) (hb : W.heap[Bm]? = some (.cells #[v] 45 (0, 0))) (h0 : J [] W) :
    CallsIn Fence.wide n Try.prog 46 #[.func (.yield l) #[] #[], .pointer (some ⟨Bm, 0, none⟩)] W fun e W' => (∃ v, e = .returned v) ∧
      ((∃ ys, ys = (List.range L.length).reverse ∧ J ys W') ∨ (∃ pre, pre <+: (List.range L.length).reverse ∧ Jx pre W')) := by
  obtain ⟨o, c, rfl⟩ := hm.form
  refine callsIn_of_wp Try.func46 rfl trivial ?_ rfl
  simp only [Try.ntmps46, List.size_toArray, List.length_cons, List.length_nil, Nat.reduceAdd, Nat.reduceSub, Array.replicate_succ, Array.replicate_zero, List.push_toArray, List.append_toArray, List.nil_append, List.cons_append]
  have cb : W.cell? ⟨Bm, 0, none⟩ = some (.slice o L.length c) := by rw [block_cell hb]; rfl
  have hw0 : IntKind.i64.wrap ((L.length : Int) - 1) = (L.length : Int) - 1 := by rw [IntKind.wrap_i64]; omega
  gi_wp2
  clear cb
  gi_loopw [3] (fun i wr => ∃ (pre : List Nat) (k : Nat), i = .int .i64 ((k : Int) - 1) ∧ k ≤ L.length ∧ Hid ((List.range L.length).reverse = pre ++ (List.range k).reverse) ∧ J pre wr ∧ KpM g Bm W wr) (fun i _ => (intOf i + 1).toNat)
  case atStart => exact ⟨[], L.length, rfl, by omega, Lib.hid rfl, h0, KpM.refl _ _ _⟩
  case round =>
    obtain ⟨pre, k, rfl, hk, Hfr, hJ, hK⟩ := hrel
    have hm2 := hm.kp hK
    have hb2 := hK Bm (.inr rfl) _ _ _ hb
    have cb : wr.cell? ⟨Bm, 0, none⟩ = some (.slice o L.length c) := by rw [block_cell hb2]; rfl
    cases k with
    | zero =>
      have d1 : ¬ (0 : Int) ≤ ((0 : Nat) : Int) - 1 := by omega
      have Hend := Lib.hid (show pre = (List.range L.length).reverse from by
        have := Hfr.out
        rw [this]
        show pre = pre ++ []
        rw [List.append_nil])
      gi_wp2
      go_end0
      exact ⟨⟨_, rfl⟩, .inl (by have h := hJ; rw [Hend.out] at h; exact h)⟩
    | succ k =>
      have e0 : ((k + 1 : Nat) : Int) - 1 = (k : Int) := by omega
      rw [e0]
      have hx : L[k]? = some (wrV L k) := by
        unfold wrV
        rw [List.getD_eq_getElem?_getD, List.getElem?_eq_getElem (by omega)]
        rfl
      obtain ⟨ho, l0, l1⟩ := hm2.at' k _ hx
      subst ho
      have hsp : (List.range L.length).reverse = (pre ++ [k]) ++ (List.range k).reverse := by
        rw [Hfr.out, List.range_succ, List.reverse_append, List.append_assoc]
        rfl
      have hlen : pre.length < L.length := by
        have := congrArg List.length hsp
        simp at this
        omega
      obtain ⟨fn, tmps, assign, body, hy, hR⟩ := hY pre k wr (by omega) hJ hlen
      dsimp only [encW] at hy
      have Hsp := Lib.hid hsp
      clear hsp hlen hx
      obtain ⟨al, hal⟩ : ∃ al, al = (⟨g, 0, none⟩ : Addr) := ⟨_, rfl⟩
      rw [← hal] at l0 l1 cb ⊢
      have HAL := Lib.hid hal
      clear hal
      have d1 : (0 : Int) ≤ (k : Int) := by omega
      have d2 : (k : Int) < (L.length : Int) := by omega
      have d3 : ((k : Int)).toNat = k := by omega
      have d4 : IntKind.i64.wrap ((k : Int) - 1) = (k : Int) - 1 := by rw [IntKind.wrap_i64]; omega
      generalize wrV L k = x at *
      gi_wp2
      refine hR.mono ?_
      rintro e W3 (⟨rfl, hJ3, hk3⟩ | ⟨rfl, hJx3⟩)
      · gi_wp2
        refine ⟨⟨pre ++ [k], k, rfl, by omega, Hsp, hJ3, hK.trans hk3⟩, ?_⟩
        simp [intOf]
      · gi_wp2
        refine bodyPost_ret (results_none rfl _ _ _) rfl ?_
        exact ⟨⟨_, rfl⟩, .inr ⟨pre ++ [k], ⟨_, Hsp.out.symm⟩, hJx3⟩⟩
end Go.Proofs.Yteblobookpldfaa.Se
