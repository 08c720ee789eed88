/- Of, and a hasher that is none: the program's walks. -/
import Derived.Test.YtegjphfkkafomaaDoorSha7
namespace Go.Proofs.YtegjphfkkafomaaDoor.Sha
open Go.RowKit Go.Proofs Go.Proofs.YtegjphfkkafomaaDoor.Q Go.Proofs.YtegjphfkkafomaaDoorW.PrintWords Go.Proofs.YtegjphfkkafomaaDoorW.PrintLast Go.Proofs.YtegjphfkkafomaaDoorW.PrintMore

theorem dig_length (s : NS) : (dig s).length = 32 := rfl
theorem sumN_length (l : List Nat) (z : Nat) : (sumN l z).length = 32 := dig_length _

def laidOver (cs : Array Value) : Nat → List Value → Array Value
  | _, [] => cs
  | o, v :: r => laidOver (cs.setIfInBounds o v) (o + 1) r
theorem laidOver_size : ∀ (vs : List Value) (o : Nat) (cs : Array Value), (laidOver cs o vs).size = cs.size
  | [], _, _ => rfl
  | v :: r, o, cs => by
    unfold laidOver
    rw [laidOver_size r, Array.size_setIfInBounds]
theorem laidOver_old : ∀ (vs : List Value) (o : Nat) (cs : Array Value) (i : Nat), i < o → (laidOver cs o vs)[i]? = cs[i]?
  | [], _, _, _, _ => rfl
  | v :: r, o, cs, i, h => by
    unfold laidOver
    rw [laidOver_old r _ _ i (by omega), Array.getElem?_setIfInBounds_ne (by omega)]
theorem laidOver_new : ∀ (vs : List Value) (o : Nat) (cs : Array Value) (i : Nat), i < vs.length → o + i < cs.size → (laidOver cs o vs)[o + i]? = vs[i]?
  | [], _, _, _, h, _ => by cases h
  | v :: r, o, cs, 0, _, h => by
    unfold laidOver
    show (laidOver (cs.setIfInBounds o v) (o + 1) r)[o]? = some v
    rw [laidOver_old r _ _ o (by omega), Array.getElem?_setIfInBounds_self_of_lt (by omega)]
  | v :: r, o, cs, i + 1, h1, h => by
    unfold laidOver
    rw [show o + (i + 1) = o + 1 + i from by omega, laidOver_new r (o + 1) _ i (by simpa using h1) (by rw [Array.size_setIfInBounds]; omega)]
    rfl
theorem setCells_row {g : Nat} {t : TypeId} {fr : Nat × Nat} : ∀ (vs : List Value) (o : Nat) (w : World) (cs : Array Value), w.heap[g]? = some (.cells cs t fr) → (w.setCells g o vs).heap[g]? = some (.cells (laidOver cs o vs) t fr)
  | [], _, _, _, h => h
  | v :: r, o, _, _, h => setCells_row r (o + 1) _ _ (block_set h o v)
/-- A whole row, stored. -/
theorem setCells_whole {g : Nat} {t : TypeId} {fr : Nat × Nat} (vs : List Value) (w : World) (cs : Array Value) (h : w.heap[g]? = some (.cells cs t fr)) (hs : cs.size = vs.length) : (w.setCells g 0 vs).heap[g]? = some (.cells vs.toArray t fr) := by
  rw [setCells_row vs 0 w cs h]
  congr 2
  apply Array.ext_getElem?
  intro i
  by_cases hi : i < vs.length
  · have := laidOver_new vs 0 cs i hi (by omega)
    rw [Nat.zero_add] at this
    rw [this]
    simp
  · rw [Array.getElem?_eq_none (by rw [laidOver_size]; omega), Array.getElem?_eq_none (by simp; omega)]
theorem digV_size (l : List Nat) (h : l.length = 32) : (Tryd.prog.info? 24).map (·.size) = some (cells8 l).toArray.size := by
  rw [size24, List.size_toArray, cells8_length, h]

theorem there_32 {w : World} {g : Nat} {cs : Array Value} {t : TypeId} (h : w.heap[g]? = some (.cells cs t (0, 0))) (hs : cs.size = 32) (l : List Nat) (hl : l.length = 32) : w.there g 0 (cells8 l).toArray.size := by
  rw [List.size_toArray, cells8_length, hl, ← hs]
  exact row_there h

set_option maxHeartbeats 4000000 in
set_option maxRecDepth 100000 in
theorem of_calls (w : World) (s : ByteArray) (hL : Laid w) (hs : s.size ≤ 1000000000) :
    Calls Tryd.prog 10 #[.string s] w fun e w' => e = .returned (digV (sumN (byN s) s.size)) ∧ Below w.heap.size w w' := by
  have hlt := hL.lt
  have HL := Lib.hid (show ∀ o, Laid (w.alloc o) from fun o => hL.of_below ((Below.refl _ _).alloc (Nat.le_refl _) o) (by omega))
  clear hL
  go_enter Tryd.func10, Tryd.ntmps10
  go_wp2_with (first
    | (go_at_call 12; refine (new_calls _ (HL.out _)).mono ?_; rintro e w2 ⟨rfl, H2, hB2⟩; rw [new_size] at H2 hB2 ⊢; have hD2 := (hB2.block w.heap.size (by omega)).trans (alloc_new w _ _ rfl); have hB2' := ((Below.refl _ w).alloc (Nat.le_refl _) _).trans (hB2.mono (Nat.le_succ _)); have hL2 := (HL.out _).of_below hB2 (by omega))
    | (go_at_call 14; refine (write_calls w2 (w.heap.size + 1) _ [] 0 s hL2 H2 hs (by omega)).mono ?_; rintro e w3 ⟨rfl, u3, H3, hf3, ho3⟩; have hL3 := hL2.of (ho3.block 0 (by have := hL2.lt; omega) (by omega) (by simp [Value.ownBlock])) (ho3.block 1 hL2.lt (by omega) (by simp [Value.ownBlock])); have hD3 := (ho3.block w.heap.size (lt_of_block hD2) (by omega) (by simp [Value.ownBlock])).trans hD2; have hB3 := hB2'.trans (ho3.below hB2'.size (by omega) (fun g hg => by simp [Value.ownBlock] at hg)); rw [List.nil_append, Nat.zero_add] at H3; clear H2 hD2 hB2 hB2' hL2)
    | (go_at_call 15; refine (sum_calls w3 (w.heap.size + 1) u3 (byN s) s.size hL3 H3 (by omega)).mono ?_; rintro e w4 ⟨rfl, hB4⟩; have hD4 := (hB4.block w.heap.size (lt_of_block hD3)).trans hD3; have hB4' := hB3.trans (hB4.mono hB3.size); have ht4 := there_32 hD4 rfl (sumN (byN s) s.size) (sumN_length _ _))
    | (refine wpList_store_mid rfl 24 (.tmp 2) (.tmp 9) rfl w.heap.size 0 (cells8 (sumN (byN s) s.size)).toArray rfl rfl ht4 (digV_size _ (sumN_length _ _)) (all_oneCell_toArray (cells8_one _)) ?_))
  refine bodyPost_ret (v := digV (sumN (byN s) s.size)) ?_ rfl ⟨rfl, setCells_below _ _ _ _ _ (Nat.le_refl _) hB4'⟩
  exact results_cell_row Tryd.results10 _ _ _ _ _ _ _ rfl (setCells_whole _ _ _ hD4 (by show 32 = (cells8 (sumN (byN s) s.size)).length; rw [cells8_length, sumN_length])) und24 rfl (digV_size _ (sumN_length _ _))
end Go.Proofs.YtegjphfkkafomaaDoor.Sha
