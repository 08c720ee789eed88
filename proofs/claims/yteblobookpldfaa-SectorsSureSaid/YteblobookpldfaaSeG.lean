/- Which loose writes stay: the two functions that tell; a sector stored; bools that came in. -/
import Derived.Test.YteblobookpldfaaSeF
namespace Go.Proofs.Yteblobookpldfaa.Se
open Go.RowKit Go.Shelf Go.Proofs

/-- Bools in memory. -/
def KRow (w : World) (v : Value) (ks : List Bool) : Prop := (v = .slice none 0 0 ∧ ks = []) ∨ ∃ a c, v = .slice (some a) ks.length c ∧ ∀ i x, ks[i]? = some x → w.cell? (a.add i) = some (.bool x)
theorem KRow.form {w : World} {v : Value} {ks : List Bool} (h : KRow w v ks) : ∃ o c, v = .slice o ks.length c := by
  rcases h with ⟨rfl, rfl⟩ | ⟨a, c, rfl, _⟩
  · exact ⟨none, 0, rfl⟩
  · exact ⟨_, _, rfl⟩
theorem KRow.at' {w : World} {o : Option Addr} {n c : Nat} {ks : List Bool} (h : KRow w (.slice o n c) ks) (i : Nat) (x : Bool) (hi : ks[i]? = some x) : ∃ a, o = some a ∧ w.cell? (a.add i) = some (.bool x) := by
  rcases h with ⟨_, rfl⟩ | ⟨a, c', e, h2⟩
  · cases hi
  · obtain ⟨e1, _, _⟩ := Value.slice.inj e
    exact ⟨a, e1, h2 i x hi⟩
theorem KRow.keep {w w' : World} {v : Value} {ks : List Bool} (h : KRow w v ks) {F : Nat → Prop} (hO : OnlyF F w w') (hF : ∀ a n c, v = .slice (some a) n c → 0 < n → ¬ F a.block) : KRow w' v ks := by
  rcases h with h | ⟨a, c, rfl, h2⟩
  · exact .inl h
  · refine .inr ⟨a, c, rfl, fun i x hx => ?_⟩
    have hc := h2 i x hx
    have hlt := World.block_lt_of_cell? w _ hc
    have hn : 0 < ks.length := by have := (List.getElem?_eq_some_iff.1 hx).1; omega
    have hb : (a.add i).block = a.block := by unfold Addr.add; split <;> rfl
    rw [World.cell?_of_block (hO.block _ hlt (by rw [hb]; exact hF a _ _ rfl hn))]
    exact hc
theorem KRow.keepB {w w' : World} {v : Value} {ks : List Bool} (h : KRow w v ks) (hB : Below w.heap.size w w') : KRow w' v ks :=
  h.keep (F := fun _ => False) (OnlyF.of hB) fun _ _ _ _ _ hf => hf
theorem KRow.own {w : World} {v : Value} {ks : List Bool} {B : Nat} (h : w.ownsRow B 4 1 v ks.length (ks.map Value.bool)) : KRow w v ks := by
  obtain ⟨o, c, rfl⟩ := ownsRow_form h
  by_cases hn : 0 < ks.length
  · obtain ⟨g, rfl⟩ := ownsRow_at h hn
    refine .inr ⟨_, _, rfl, fun i x hx => ?_⟩
    have hi := (List.getElem?_eq_some_iff.1 hx).1
    rcases h.2 with ⟨e, _⟩ | ⟨g', cap, cur, e, _, _, _⟩
    · cases e
    · obtain ⟨e1, _, e3⟩ := Value.slice.inj e
      rw [add_zero, h.cellAt i (by omega), List.getElem?_map, hx]
      rfl
  · obtain rfl : ks = [] := List.eq_nil_of_length_eq_zero (by omega)
    rcases h.2 with ⟨e, _⟩ | ⟨g', cap, cur, e, _, hg, _⟩
    · exact .inl ⟨e, rfl⟩
    · exact .inr ⟨⟨g', 0, none⟩, cap, e, fun i x hx => by cases hx⟩
set_option maxHeartbeats 1000000 in
theorem all_calls (w : World) (i : Int) : Calls Try.prog 36 #[.int .i64 i] w fun e w' => e = .returned (.bool true) ∧ w = w' := by
  go_enter Try.func36, Try.ntmps36
  go_wp2
  go_ret
  exact ⟨rfl, rfl⟩
set_option maxHeartbeats 1000000 in
theorem some_calls (w : World) (i b : Nat) (v : Value) (ks : List Bool) (hb : w.cell? ⟨b, 0, none⟩ = some v) (h : KRow w v ks) : Calls Try.prog 37 #[.int .i64 (i : Int), .pointer (some ⟨b, 0, none⟩)] w fun e w' => e = .returned (.bool (ks.getD i false)) ∧ w = w' := by
  obtain ⟨o, c, rfl⟩ := h.form
  by_cases hi : i < ks.length
  · obtain ⟨x, hx⟩ : ∃ x, ks[i]? = some x := ⟨_, List.getElem?_eq_getElem hi⟩
    obtain ⟨a, rfl, hc⟩ := h.at' i x hx
    have hg : ks.getD i false = x := by rw [List.getD_eq_getElem?_getD, hx]; rfl
    rw [hg]
    have c1 : (i : Int) < (ks.length : Int) := by omega
    have c3 : ((i : Int)).toNat = i := by omega
    have c4 : (0 : Int) ≤ (i : Int) := by omega
    clear h hx hg
    go_enter Try.func37, Try.ntmps37
    go_wp2
    go_ret
    exact ⟨rfl, rfl⟩
  · have hg : ks.getD i false = false := by rw [List.getD_eq_getElem?_getD, List.getElem?_eq_none (by omega)]; rfl
    rw [hg]
    have c1 : ¬ (i : Int) < (ks.length : Int) := by omega
    clear h hg
    go_enter Try.func37, Try.ntmps37
    go_wp2
    go_ret
    exact ⟨rfl, rfl⟩
/-- A sector is stored. -/
theorem DAt.putSure {W : World} {F : Nat → Prop} {p g n c : Nat} {lv kv : Value} {d : Dk} (h : DAt W F p (.slice (some ⟨g, 0, none⟩) n c) lv kv d) (hn : n = d.sure.length) (j : Nat) (x : ByteArray) :
    DAt (W.setCell ⟨g, j, none⟩ (.string x)) F p (.slice (some ⟨g, 0, none⟩) n c) lv kv { d with sure := d.sure.set j x } := by
  have hns := h.ns
  have hgp : g ≠ p := fun e => hns (by rw [← e]; rfl)
  have hk : ∀ k, k ≠ g → (W.setCell ⟨g, j, none⟩ (.string x)).heap[k]? = W.heap[k]? := fun _ hk => Below.heap_setCell _ _ _ _ hk
  obtain ⟨cur, hcur⟩ : ∃ cur, W.heap[g]? = some (.cells cur 9 (0, 0)) := by
    rcases h.su.2 with ⟨e, _⟩ | ⟨g', cap, cur, e, _, hg, _⟩
    · cases e
    · obtain ⟨e1, _, _⟩ := Value.slice.inj e
      obtain rfl : g = g' := by simpa using e1
      exact ⟨cur, hg⟩
  subst hn
  refine ⟨h.fp, h.fs, h.fl, h.fk, (hk p (fun e => hgp e.symm)).trans h.m, ?_, ?_, ?_⟩
  · have := (h.su.stored j (.string x)).1
    simp only [List.length_set, List.map_set]
    exact this
  · exact ownsRow_block h.lo fun k hk' => hk k fun e => ownsRow_ne h.lo hcur (by decide) (by rw [hk', e])
  · exact ownsRow_block h.ke fun k hk' => hk k fun e => ownsRow_ne h.ke hcur (by decide) (by rw [hk', e])
end Go.Proofs.Yteblobookpldfaa.Se
