/- What is done with a map: a list of acts read; whether it is great. -/
import Derived.Test.YtidnkckfkgaooaaAl14
namespace Go.Proofs.Ytidnkckfkgaooaa.Al
open Go.RowKit Go.Shelf Go.Proofs Go.Proofs.Ytidnkckfkgaooaa.Ext Go.Proofs.Ytidnkckfkgaooaa.Pure Go.Proofs.YtidnkckfkgaooaaW.PrintWords Go.Proofs.YtidnkckfkgaooaaW.PrintLast Go.Proofs.YtidnkckfkgaooaaW.PrintMore

/-- An act: what is done, how many, raw extents (as a value, as a list). -/
structure ActV where
  kind : Int
  n : Int
  v : Value
  raw : List (Int × Int)
def fld (a : Addr) (j : Nat) : Addr := ⟨a.block, a.off + j, none⟩
/-- An act's cells. -/
def ActOk (w : World) (x : ActV) : Prop := ExRow w x.v x.raw ∧ 0 ≤ x.kind ∧ x.kind < 256 ∧ I64 x.n ∧ ∀ y ∈ x.raw, I64 y.1 ∧ I64 y.2
def ActAt (w : World) (a : Addr) (x : ActV) : Prop := w.cell? a = some (.int .u8 x.kind) ∧ w.cell? (fld a 1) = some (.int .i64 x.n) ∧ w.cell? (fld a 2) = some x.v ∧ ActOk w x
def ActRow (w : World) (v : Value) (A : List ActV) : Prop := (v = .slice none 0 0 ∧ A = []) ∨ ∃ a cap, v = .slice (some a) A.length cap ∧ ∀ i x, A[i]? = some x → ActAt w (a.add (i * 3)) x
theorem ActRow.form {w : World} {v : Value} {A : List ActV} (h : ActRow w v A) : ∃ o c, v = .slice o A.length c := by
  rcases h with ⟨rfl, rfl⟩ | ⟨a, c, rfl, _⟩
  · exact ⟨none, 0, rfl⟩
  · exact ⟨some a, c, rfl⟩
theorem ActRow.at' {w : World} {o : Option Addr} {n c : Nat} {A : List ActV} (h : ActRow w (.slice o n c) A) (i : Nat) (x : ActV) (hi : A[i]? = some x) : ∃ a, o = some a ∧ ActAt w (a.add (i * 3)) x := by
  rcases h with ⟨h1, rfl⟩ | ⟨a, cap, h1, h2⟩
  · cases hi
  · obtain ⟨rfl, rfl, rfl⟩ := Value.slice.inj h1
    exact ⟨a, rfl, h2 i x hi⟩
theorem ActAt.keepB {w w' : World} {a : Addr} {x : ActV} (h : ActAt w a x) (hB : Below w.heap.size w w') : ActAt w' a x := by
  obtain ⟨h0, h1, h2, h3, h4⟩ := h
  have key : ∀ b u, w.cell? b = some u → w'.cell? b = some u := fun b u hu => (hB.cell (block_lt_of_cell hu)).trans hu
  exact ⟨key _ _ h0, key _ _ h1, key _ _ h2, h3.keepB hB, h4⟩
theorem ActRow.keepB {w w' : World} {v : Value} {A : List ActV} (h : ActRow w v A) (hB : Below w.heap.size w w') : ActRow w' v A := by
  rcases h with h | ⟨a, cap, h1, h2⟩
  · exact .inl h
  · exact .inr ⟨a, cap, h1, fun i x hi => (h2 i x hi).keepB hB⟩
def greatA (A : List ActV) (most : Int) : Bool := A.any (fun x => decide (20 < x.raw.length)) || decide (most < (A.length : Int))
set_option maxHeartbeats 2000000 in
theorem great_calls (w : World) (v : Value) (A : List ActV) (most : Int) (h : ActRow w v A) (hA : A.length ≤ 1000000000000) : Calls Try.prog 31 #[v, .int .i64 most] w fun e w' => e = .returned (.bool (greatA A most)) ∧ w = w' := by
  obtain ⟨o, c, rfl⟩ := h.form
  have HL := Lib.hid hA
  clear hA
  go_enter Try.func31, Try.ntmps31
  go_wp2
  go_loopg [5] A.length (fun k v5 wr => ∃ i : Nat, v5 = .int .i64 (i : Int) ∧ i ≤ A.length ∧ (∀ j x, j < i → A[j]? = some x → x.raw.length ≤ 20) ∧ wr = w ∧ k = A.length - i)
  case atStart => exact ⟨0, rfl, by omega, fun j x hj => by omega, rfl, rfl⟩
  case round =>
    obtain ⟨i, rfl, hi, hall, rfl, rfl⟩ := hrel
    have HA := Lib.hid hall
    clear hall
    by_cases hil : i < A.length
    · obtain ⟨x, hx⟩ : ∃ x, A[i]? = some x := ⟨_, List.getElem?_eq_getElem hil⟩
      obtain ⟨a, rfl, hact⟩ := h.at' i x hx
      obtain ⟨_, _, h2, h3, _⟩ := hact
      obtain ⟨o2, c2, hxv⟩ := h3.form
      rw [hxv] at h2
      unfold fld at h2
      have c1 : (i : Int) < (A.length : Int) := by omega
      have c3 : ((i : Int)).toNat = i := by omega
      have c4 : (0 : Int) ≤ (i : Int) := by omega
      by_cases hg : 20 < x.raw.length
      · have d1 : (20 : Int) < (x.raw.length : Int) := by omega
        have HE := Lib.hid (show greatA A most = true by
          unfold greatA
          rw [Bool.or_eq_true]
          left
          rw [List.any_eq_true]
          exact ⟨x, List.mem_of_getElem? hx, decide_eq_true hg⟩)
        clear hx hxv h3
        go_wp2
        go_ret
        exact ⟨by rw [HE.out]; rfl, rfl⟩
      · have d1 : ¬ (20 : Int) < (x.raw.length : Int) := by omega
        have HN := Lib.hid (show ∀ j y, j < i + 1 → A[j]? = some y → y.raw.length ≤ 20 from fun j y hj hy => by
          by_cases e : j = i
          · subst e
            rw [hx] at hy
            obtain rfl := Option.some.inj hy
            omega
          · exact HA.out j y (by omega) hy)
        clear hx hxv h3
        have hl := HL.out
        go_wp2
        go_roundg (A.length - (i + 1))
        case measure => omega
        case rel => exact ⟨i + 1, by simp, by omega, HN.out, rfl, rfl⟩
    · have c1 : ¬ (i : Int) < (A.length : Int) := by omega
      have hE : greatA A most = decide (most < (A.length : Int)) := by
        unfold greatA
        rw [show A.any (fun x => decide (20 < x.raw.length)) = false from ?_]
        · rfl
        · rw [List.any_eq_false]
          intro x hx
          obtain ⟨j, hj⟩ := List.getElem?_of_mem hx
          have := HA.out j x (by have := (List.getElem?_eq_some_iff.1 hj).1; omega) hj
          simpa using this
      have HE := Lib.hid hE
      clear hE
      go_wp2
      go_ret
      exact ⟨by rw [HE.out]; rfl, rfl⟩
end Go.Proofs.Ytidnkckfkgaooaa.Al
