/- The chapter's disk: the walk. -/
import Derived.Test.YteblobookpldfaaSeQ
namespace Go.Proofs.Yteblobookpldfaa.Se
open Go.RowKit Go.Shelf Go.Proofs
attribute [local go_sem] Oper.semAt_some

set_option maxRecDepth 100000 in
set_option maxHeartbeats 4000000 in
theorem spun_calls (w : World) : Calls Try.prog 8 #[] w fun e w' => e = .returned (.bool true) ∧ Below w.heap.size w w' := by
  have HN : Hid (Calls Try.prog 9 #[.int .i64 8] w fun e W' => ∃ p, e = .returned (.tuple #[.pointer (some ⟨p, 0, none⟩), .int .i64 0]) ∧ D1 w p (spD (secS 0) (secS 0) [] false 0 false 0) W') := Lib.hid (by rw [← sp_new]; exact D1.new w w (Below.refl _ _) 8 (by omega) (by omega))
  have HA : Hid (∀ W, Calls Try.prog 23 #[.int .u8 97] W fun e w' => e = .returned (.string (secS 97)) ∧ Below W.heap.size W w') := Lib.hid (fun W => sector_calls W 97)
  have HB : Hid (∀ W, Calls Try.prog 23 #[.int .u8 98] W fun e w' => e = .returned (.string (secS 98)) ∧ Below W.heap.size W w') := Lib.hid (fun W => sector_calls W 98)
  have za := secS_size 97
  have zb := secS_size 98
  generalize secS 0 = z at *
  generalize secS 97 = a at *
  generalize secS 98 = b at *
  have K0 := fun down st fails left (hl : (0 : Int) ≤ left ∧ left ≤ 5) two => sp_ok z two [] (fun x hx => (by cases hx)) (by simp) down st fails left hl
  have K1 := fun two => sp_ok z two [(2, a)] (fun x hx => by simp at hx; rw [hx]) (by simp) false 0 false 0 (by decide)
  have K2 := fun two => sp_ok z two [(2, a), (2, b)] (fun x hx => by simp at hx; rcases hx with rfl | rfl <;> rfl) (by simp) false 0 false 0 (by decide)
  have W1 := Lib.hid (fun (W : World) (p : Nat) (h : D1 w p (spD z z [] false 0 false 0) W) => h.write (K0 _ _ _ _ (by decide) _) (by omega) 2 a (sp_write z z [] a za))
  have W2 := Lib.hid (fun (W : World) (p : Nat) (h : D1 w p (spD z z [(2, a)] false 0 false 0) W) => h.write (K1 _) (by omega) 2 b (sp_write z z [(2, a)] b zb))
  have C1 := Lib.hid (fun (W : World) (p : Nat) (h : D1 w p (spD z z [(2, a), (2, b)] false 0 false 0) W) => h.crashNew (K2 _) true (sp_crash z a b))
  have S1 := Lib.hid (fun (W : World) (p : Nat) (h : D1 w p (spD z a [] true 0 false 0) W) => h.start (K0 _ _ _ _ (by decide) _) (sp_start z a))
  have R1 := Lib.hid (fun (W : World) (p : Nat) (h : D1 w p (spD z a [] false 1 false 0) W) => h.read (K0 _ _ _ _ (by decide) _) (by omega) 2 a 0 (sp_read z a))
  have W3 := Lib.hid (fun (W : World) (p : Nat) (h : D1 w p (spD z a [] false 1 false 0) W) => h.write (K0 _ _ _ _ (by decide) _) (by omega) 9 a (sp_write9 z a a))
  have W4 := Lib.hid (fun (W : World) (p : Nat) (h : D1 w p (spD z a [] false 1 false 0) W) => h.write (K0 _ _ _ _ (by decide) _) (by omega) 1 ⟨#[120]⟩ (sp_writex z a))
  have F1 := Lib.hid (fun (W : World) (p : Nat) (h : D1 w p (spD z a [] false 1 false 0) W) => h.failNil (K0 _ _ _ _ (by decide) _) 1 (sp_fail z a))
  have L1 := Lib.hid (fun (W : World) (p : Nat) (h : D1 w p (spD z a [] false 1 true 1) W) => h.flush (K0 _ _ _ _ (by decide) _) (sp_flush z a))
  have L2 := Lib.hid (fun (W : World) (p : Nat) (h : D1 w p (spD z a [] false 1 true 0) W) => h.flush (K0 _ _ _ _ (by decide) _) (sp_flush2 z a))
  have kk : Ok 2 (spD z a [] true 1 false (-1)) := ⟨by simp [spD], fun x hx => (by cases hx), fun hf => (by cases hf), by simp [spD]⟩
  have U1 := Lib.hid (fun (W : World) (p : Nat) (h : D1 w p (spD z a [] true 1 false (-1)) W) => h.up kk false rfl)
  clear K0 K1 K2 kk za zb
  go_enter Try.func8, Try.ntmps8
  go_wp2_with (first
    | (go_at_call 9; refine HN.out.mono ?_; rintro e w1 ⟨p, rfl, g0⟩)
    | (go_at_call 14; with_reducible refine (W1.out _ _ g0).mono ?_; rintro e w3 ⟨rfl, g1⟩; clear g0)
    | (go_at_call 14; with_reducible refine (W2.out _ _ g1).mono ?_; rintro e w5 ⟨rfl, g2⟩; clear g1)
    | (go_at_call 16; with_reducible refine (C1.out _ _ g2).mono ?_; rintro e w6 ⟨rfl, g3⟩; clear g2)
    | (go_at_call 17; with_reducible refine (S1.out _ _ g3).mono ?_; rintro e w7 ⟨rfl, g4⟩; clear g3)
    | (go_at_call 13; with_reducible refine (R1.out _ _ g4).mono ?_; rintro e w8 ⟨rfl, g5⟩; clear g4)
    | (go_at_call 14; with_reducible refine (W3.out _ _ g5).mono ?_; rintro e w10 ⟨rfl, g6⟩; clear g5)
    | (go_at_call 14; with_reducible refine (W4.out _ _ g6).mono ?_; rintro e w11 ⟨rfl, g7⟩; clear g6)
    | (go_at_call 18; with_reducible refine (F1.out _ _ g7).mono ?_; rintro e w12 ⟨rfl, g8⟩; clear g7)
    | (go_at_call 15; with_reducible refine (L1.out _ _ g8).mono ?_; rintro e w13 ⟨rfl, g9⟩; clear g8)
    | (go_at_call 15; with_reducible refine (L2.out _ _ g9).mono ?_; rintro e w14 ⟨rfl, g10⟩; clear g9)
    | (go_at_call 21; with_reducible refine (U1.out _ _ g10).mono ?_; rintro e w15 ⟨rfl, rfl⟩)
    | (go_at_call 23; with_reducible refine (HA.out _).mono ?_; rintro e w2 ⟨rfl, hB2⟩; first | replace g0 := g0.keepB hB2 | replace g5 := g5.keepB hB2 | have g5 := g4.keepB hB2)
    | (go_at_call 23; with_reducible refine (HB.out _).mono ?_; rintro e w4 ⟨rfl, hB4⟩; replace g1 := g1.keepB hB4))
  go_ret
  exact ⟨rfl, g10.1⟩
end Go.Proofs.Yteblobookpldfaa.Se
