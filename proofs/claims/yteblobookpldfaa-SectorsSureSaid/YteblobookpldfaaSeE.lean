/- A disk, made. -/
import Derived.Test.YteblobookpldfaaSeD
namespace Go.Proofs.Yteblobookpldfaa.Se
open Go.RowKit Go.Shelf Go.Proofs

theorem ownsRow_base {w : World} {base b' size n : Nat} {e : TypeId} {v : Value} {xs : List Value} (h : w.ownsRow base e size v n xs) (hb : b' ≤ base) : w.ownsRow b' e size v n xs := by
  refine ⟨h.1, ?_⟩
  rcases h.2 with h2 | ⟨g, cap, cur, e1, h3, h4⟩
  · exact .inl h2
  · exact .inr ⟨g, cap, cur, e1, Nat.le_trans hb h3, h4⟩
/-- A new disk. -/
def dN (n : Nat) : Dk := ⟨List.replicate n (secS 0), [], false, 0, false, 0, []⟩
def NewNone (w : World) (e : Ending) (w' : World) : Prop := e = .returned (.tuple #[.pointer none, .int .i64 2]) ∧ w = w'
def NewEnd (n : Nat) (w : World) (e : Ending) (w' : World) : Prop := ∃ p sv, e = .returned (.tuple #[.pointer (some ⟨p, 0, none⟩), .int .i64 0]) ∧ DAt w' (fun x => w.heap.size ≤ x ∧ x < w'.heap.size) p sv (.slice none 0 0) (.slice none 0 0) (dN n) ∧ Below w.heap.size w w'
set_option maxHeartbeats 2000000 in
theorem new_none (w : World) (n : Int) (h : n < 8 ∨ 4096 < n) : Calls Try.prog 9 #[.int .i64 n] w (NewNone w) := by
  rcases h with h | h
  · go_enter Try.func9, Try.ntmps9
    go_wp2
    go_ret2
    exact ⟨rfl, rfl⟩
  · have h1 : ¬ n < 8 := by omega
    go_enter Try.func9, Try.ntmps9
    go_wp2
    go_ret2
    exact ⟨rfl, rfl⟩
set_option maxHeartbeats 2000000 in
theorem new_some (w : World) (n : Nat) (h8 : 8 ≤ n) (hn : n ≤ 4096) : Calls Try.prog 9 #[.int .i64 (n : Int)] w (NewEnd n w) := by
  have h1 : ¬ (n : Int) < 8 := by omega
  have h2 : ¬ (4096 : Int) < (n : Int) := by omega
  have HR := Lib.hid (fun w => repeat_zero w)
  have HL := Lib.hid (fun (W : World) => repeat_list (W.alloc (.cells #[.string (secS 0)] 9)) n W.heap.size 1 (secS 0) (by omega) hn (by rw [block_cell (alloc_new W _ _ rfl)]; rfl))
  have HQ : NewEnd n w = NewEnd n w := rfl
  generalize hQ : NewEnd n w = Q at HQ ⊢
  obtain ⟨s, hs⟩ : ∃ s, s = secS 0 := ⟨_, rfl⟩
  rw [← hs] at HR HL
  have HS := Lib.hid hs
  clear hs
  go_enter Try.func9, Try.ntmps9
  go_wp2_with (first
    | (go_at_call 25; refine (HR.out _).mono ?_; rintro e w' ⟨rfl, hB⟩)
    | (go_at_call 24; refine (HL.out _).mono ?_; rintro e w2 ⟨rfl, hO, hB2⟩))
  have hs := HS.out
  subst hs
  rw [← hQ]
  have hz1 : (w'.alloc (.cells #[.string (secS 0)] 9)).heap.size = w'.heap.size + 1 := by simp
  rw [hz1] at hO hB2
  have hsz := hB.size
  have hsz2 := hB2.size
  rw [hz1] at hsz2
  have B1 : Below w.heap.size w (w'.alloc (.cells #[.string (secS 0)] 9)) := hB.alloc hsz _
  have B2 : Below w.heap.size w w2 := B1.trans (hB2.mono (by omega))
  obtain ⟨o1, o2⟩ := hO.lt (w'.heap.size + 1) rfl
  refine ⟨w2.heap.size, .slice (some ⟨w'.heap.size + 1, 0, none⟩) n n, rfl, ⟨⟨by omega, by simp⟩, fun k hk => ?_, fun k hk => (by cases hk), fun k hk => (by cases hk), alloc_new _ _ _ rfl, ?_, ?_, ?_⟩, B2.alloc (by omega) _⟩
  · obtain rfl : w'.heap.size + 1 = k := by simpa [Value.ownBlock] using hk
    exact ⟨by omega, by simp; omega⟩
  · have h := hO.alloc (.cells #[.slice (some ⟨w'.heap.size + 1, 0, none⟩) n n, .slice none 0 0, .bool false, .int .i64 0, .bool false, .int .i64 0, .slice none 0 0] 47)
    have e : (dN n).sure.map Value.string = List.replicate n (Value.string (secS 0)) := by unfold dN; rw [List.map_replicate]
    rw [e, show (dN n).sure.length = n from List.length_replicate]
    exact ownsRow_base h (Nat.zero_le _)
  · exact World.ownsRow_nil _ _ _ _
  · exact World.ownsRow_nil _ _ _ _
end Go.Proofs.Yteblobookpldfaa.Se
