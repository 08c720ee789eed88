/- The map of any bits is the document's: the law's walk. -/
import Derived.Test.YtidnkckfkgaooaaAl20
namespace Go.Proofs.Ytidnkckfkgaooaa.Al
open Go.RowKit Go.Shelf Go.Proofs Go.Proofs.Ytidnkckfkgaooaa.Ext Go.Proofs.Ytidnkckfkgaooaa.Pure Go.Proofs.YtidnkckfkgaooaaW.PrintWords Go.Proofs.YtidnkckfkgaooaaW.PrintLast Go.Proofs.YtidnkckfkgaooaaW.PrintMore

theorem cntF_hasB (s : ByteArray) : ∀ n, cntF (hasB s) n = countTo s n
  | 0 => rfl
  | n + 1 => by
    show cntF (hasB s) n + _ = countTo s n + _
    rw [cntF_hasB s n]
theorem countTo_clear (s : ByteArray) (n : Nat) : ∀ d, (∀ i, n ≤ i → i < n + d → hasB s i = false) → countTo s (n + d) = countTo s n
  | 0, _ => rfl
  | d + 1, h => by
    show countTo s (n + d) + (if hasB s (n + d) = true then 1 else 0) = _
    rw [countTo_clear s n d (fun i h1 h2 => h i h1 (by omega)), h (n + d) (by omega) (by omega)]
    rfl
/-- Both count the same. -/
theorem used_eq {s : ByteArray} {n : Nat} (h : OfOk s n) : cntF (hasB s) n = countN s := by
  rw [cntF_hasB]
  have h2 : n ≤ 8 * s.size := by rw [h.1]; omega
  have := countTo_clear s n (8 * s.size - n) (fun i h3 h4 => h.2 i h3 (by omega))
  rw [show n + (8 * s.size - n) = 8 * s.size from by omega] at this
  exact this.symm
attribute [local irreducible] packT cntF countN
set_option maxRecDepth 100000 in
set_option maxHeartbeats 4000000 in
theorem allocOf_calls (s : ByteArray) (n : Int) (w : World) (hn : I64 n) : Calls Try.prog 10 #[.string s, .int .i64 n] w fun e w' => e = .returned (.bool true) ∧ Below w.heap.size w w' := by
  by_cases h6 : 600 < s.size
  · have c1 : (600 : Int) < (s.size : Int) := by omega
    go_enter Try.func10, Try.ntmps10
    go_wp2_with (go_at_call 30; refine (took_calls _).mono ?_; rintro e w' ⟨rfl, hT⟩)
    go_ret
    exact ⟨rfl, hT⟩
  · have c1 : ¬ (600 : Int) < (s.size : Int) := by omega
    have hs : s.size ≤ 600 := by omega
    have HNN := Lib.hid hn
    clear h6 hn
    go_enter Try.func10, Try.ntmps10
    go_wp2
    go_loopg [5, 6, 7, 8, 9, 10] 11 (fun k v5 _ _ _ _ _ wr => ∃ j : Nat, v5 = .int .i64 ((j : Int) - 1) ∧ j ≤ 11 ∧ Below w.heap.size w wr ∧ k = 11 - j)
    case atStart => exact ⟨0, rfl, by omega, Below.refl _ _, rfl⟩
    case round =>
      obtain ⟨j, rfl, hj, hB, rfl⟩ := hrel
      by_cases hjl : j < 11
      · have d1 : (j : Int) - 1 < 10 := by omega
        have hsz := hB.size
        by_cases hj0 : j = 0
        · subst hj0
          by_cases hb : n < 1 ∨ 4096 < n
          · have HA := Lib.hid (fun w => of_arg s n w hb)
            have HRf := Lib.hid (fun w => refOf_none s n w hb)
            clear hb
            go_wp2_with (first
              | (go_at_call 40; refine (HA.out _).mono ?_; rintro e w2 ⟨rfl, hB2⟩)
              | (go_at_call 41; refine (HRf.out _).mono ?_; rintro e w3 ⟨rfl, hB3⟩))
            go_roundg (11 - (0 + 1))
            case measure => omega
            case rel => exact ⟨0 + 1, by simp, by omega, (hB.trans (hB2.mono hB.size)).trans (hB3.mono (Nat.le_trans hB.size hB2.size)), rfl⟩
          · obtain ⟨m, hm⟩ : ∃ m : Nat, n = (m : Int) := ⟨(n).toNat, by omega⟩
            subst hm
            have m1 : 1 ≤ m := by omega
            have m2 : m ≤ 4096 := by omega
            clear hb
            by_cases hok : OfOk s m
            · have HA := Lib.hid (show ∀ w, Calls Try.prog 40 #[.string s, .int .i64 (m : Int)] w (NEnd w m s) from fun w => (of_calls s m w m1 m2).mono (fun e w' h => by
                rcases h with ⟨_, h⟩ | ⟨h, _⟩
                · exact h
                · exact absurd hok h))
              have HRf := Lib.hid (show ∀ w, Calls Try.prog 41 #[.string s, .int .i64 (m : Int)] w (REnd w m (hasB s)) from fun w => (refOf_some s m w m1 m2 (by omega)).mono (fun e w' h => by
                rcases h with ⟨_, h⟩ | ⟨h, _⟩
                · exact h
                · exact absurd hok h))
              have HP := Lib.hid (packT_ok hok)
              have HU := Lib.hid (used_eq hok)
              clear hok
              go_wp2_with (first
                | (go_at_call 40; refine (HA.out _).mono ?_; rintro e w2 ⟨ga, rfl, MA, hga, hB2⟩)
                | (go_at_call 41; refine (HRf.out _).mono ?_; rintro e w3 ⟨q, g, cap, rfl, R, hB3⟩; have MA3 := MA.keepB hB3)
                | (go_at_call 38; refine (bytes_map _ _ _ _ MA3).mono ?_; rintro e w4 ⟨rfl, rfl⟩)
                | (go_at_call 39; refine (refBytes_calls _ _ _ _ _ _ _ R m2).mono ?_; rintro e w5 ⟨rfl, hB5⟩; have MA5 := MA3.keepB hB5; have R5 := R.keepB hB5; rw [HP.out])
                | (go_at_call 27; refine (used_map _ _ _ _ MA5 (by omega)).mono ?_; rintro e w6 ⟨rfl, ⟨d, rfl⟩⟩; have R6 := R5.keepB (pw_below_drewN (Below.refl _ _) d); have MA6 := MA5.keepB (pw_below_drewN (Below.refl _ _) d))
                | (go_at_call 36; refine (refUsed_calls _ _ _ _ _ _ _ R6 m2).mono ?_; rintro e w7 ⟨rfl, rfl⟩; rw [HU.out])
                | (go_at_call 37; refine (size_map _ _ _ _ MA6).mono ?_; rintro e w8 ⟨rfl, rfl⟩))
              go_roundg (11 - (0 + 1))
              case measure => omega
              case rel => exact ⟨0 + 1, by simp, by omega, (((hB.trans (hB2.mono hB.size)).trans (hB3.mono (Nat.le_trans hB.size hB2.size))).trans (hB5.mono (Nat.le_trans hB.size (Nat.le_trans hB2.size hB3.size)))).trans ((pw_below_drewN (Below.refl _ _) d).mono (Nat.le_trans hB.size (Nat.le_trans hB2.size (Nat.le_trans hB3.size hB5.size)))), rfl⟩
            · have HA := Lib.hid (show ∀ w, Calls Try.prog 40 #[.string s, .int .i64 (m : Int)] w (NNone 10 w) from fun w => (of_calls s m w m1 m2).mono (fun e w' h => by
                rcases h with ⟨h, _⟩ | ⟨_, h⟩
                · exact absurd h hok
                · exact h))
              have HRf := Lib.hid (show ∀ w, Calls Try.prog 41 #[.string s, .int .i64 (m : Int)] w (NNone 10 w) from fun w => (refOf_some s m w m1 m2 (by omega)).mono (fun e w' h => by
                rcases h with ⟨h, _⟩ | ⟨_, h⟩
                · exact absurd h hok
                · exact h))
              clear hok
              go_wp2_with (first
                | (go_at_call 40; refine (HA.out _).mono ?_; rintro e w2 ⟨rfl, hB2⟩)
                | (go_at_call 41; refine (HRf.out _).mono ?_; rintro e w3 ⟨rfl, hB3⟩))
              go_roundg (11 - (0 + 1))
              case measure => omega
              case rel => exact ⟨0 + 1, by simp, by omega, (hB.trans (hB2.mono hB.size)).trans (hB3.mono (Nat.le_trans hB.size hB2.size)), rfl⟩
        · have d2 : (0 : Int) ≤ (j : Int) - 1 := by omega
          obtain ⟨M, hM⟩ : ∃ M, 8 * (s.size : Int) - ((j : Int) - 1) = M := ⟨_, rfl⟩
          have hM1 : -10 ≤ M := by omega
          have hM2 : M ≤ 4810 := by omega
          by_cases hb : M < 1 ∨ 4096 < M
          · have HA := Lib.hid (fun w => of_arg s M w hb)
            have HRf := Lib.hid (fun w => refOf_none s M w hb)
            clear hb
            go_wp2_with (first
              | (go_at_call 40; refine (HA.out _).mono ?_; rintro e w2 ⟨rfl, hB2⟩)
              | (go_at_call 41; refine (HRf.out _).mono ?_; rintro e w3 ⟨rfl, hB3⟩))
            go_roundg (11 - (j + 1))
            case measure => omega
            case rel => exact ⟨j + 1, by simp, by omega, (hB.trans (hB2.mono hB.size)).trans (hB3.mono (Nat.le_trans hB.size hB2.size)), rfl⟩
          · obtain ⟨m, hm⟩ : ∃ m : Nat, M = (m : Int) := ⟨(M).toNat, by omega⟩
            subst hm
            have m1 : 1 ≤ m := by omega
            have m2 : m ≤ 4096 := by omega
            clear hb
            by_cases hok : OfOk s m
            · have HA := Lib.hid (show ∀ w, Calls Try.prog 40 #[.string s, .int .i64 (m : Int)] w (NEnd w m s) from fun w => (of_calls s m w m1 m2).mono (fun e w' h => by
                rcases h with ⟨_, h⟩ | ⟨h, _⟩
                · exact h
                · exact absurd hok h))
              have HRf := Lib.hid (show ∀ w, Calls Try.prog 41 #[.string s, .int .i64 (m : Int)] w (REnd w m (hasB s)) from fun w => (refOf_some s m w m1 m2 (by omega)).mono (fun e w' h => by
                rcases h with ⟨_, h⟩ | ⟨h, _⟩
                · exact h
                · exact absurd hok h))
              have HP := Lib.hid (packT_ok hok)
              have HU := Lib.hid (used_eq hok)
              clear hok
              go_wp2_with (first
                | (go_at_call 40; refine (HA.out _).mono ?_; rintro e w2 ⟨ga, rfl, MA, hga, hB2⟩)
                | (go_at_call 41; refine (HRf.out _).mono ?_; rintro e w3 ⟨q, g, cap, rfl, R, hB3⟩; have MA3 := MA.keepB hB3)
                | (go_at_call 38; refine (bytes_map _ _ _ _ MA3).mono ?_; rintro e w4 ⟨rfl, rfl⟩)
                | (go_at_call 39; refine (refBytes_calls _ _ _ _ _ _ _ R m2).mono ?_; rintro e w5 ⟨rfl, hB5⟩; have MA5 := MA3.keepB hB5; have R5 := R.keepB hB5; rw [HP.out])
                | (go_at_call 27; refine (used_map _ _ _ _ MA5 (by omega)).mono ?_; rintro e w6 ⟨rfl, ⟨d, rfl⟩⟩; have R6 := R5.keepB (pw_below_drewN (Below.refl _ _) d); have MA6 := MA5.keepB (pw_below_drewN (Below.refl _ _) d))
                | (go_at_call 36; refine (refUsed_calls _ _ _ _ _ _ _ R6 m2).mono ?_; rintro e w7 ⟨rfl, rfl⟩; rw [HU.out])
                | (go_at_call 37; refine (size_map _ _ _ _ MA6).mono ?_; rintro e w8 ⟨rfl, rfl⟩))
              go_roundg (11 - (j + 1))
              case measure => omega
              case rel => exact ⟨j + 1, by simp, by omega, (((hB.trans (hB2.mono hB.size)).trans (hB3.mono (Nat.le_trans hB.size hB2.size))).trans (hB5.mono (Nat.le_trans hB.size (Nat.le_trans hB2.size hB3.size)))).trans ((pw_below_drewN (Below.refl _ _) d).mono (Nat.le_trans hB.size (Nat.le_trans hB2.size (Nat.le_trans hB3.size hB5.size)))), rfl⟩
            · have HA := Lib.hid (show ∀ w, Calls Try.prog 40 #[.string s, .int .i64 (m : Int)] w (NNone 10 w) from fun w => (of_calls s m w m1 m2).mono (fun e w' h => by
                rcases h with ⟨h, _⟩ | ⟨_, h⟩
                · exact absurd h hok
                · exact h))
              have HRf := Lib.hid (show ∀ w, Calls Try.prog 41 #[.string s, .int .i64 (m : Int)] w (NNone 10 w) from fun w => (refOf_some s m w m1 m2 (by omega)).mono (fun e w' h => by
                rcases h with ⟨h, _⟩ | ⟨_, h⟩
                · exact absurd h hok
                · exact h))
              clear hok
              go_wp2_with (first
                | (go_at_call 40; refine (HA.out _).mono ?_; rintro e w2 ⟨rfl, hB2⟩)
                | (go_at_call 41; refine (HRf.out _).mono ?_; rintro e w3 ⟨rfl, hB3⟩))
              go_roundg (11 - (j + 1))
              case measure => omega
              case rel => exact ⟨j + 1, by simp, by omega, (hB.trans (hB2.mono hB.size)).trans (hB3.mono (Nat.le_trans hB.size hB2.size)), rfl⟩
      · have d1 : ¬ (j : Int) - 1 < 10 := by omega
        go_wp2_with (go_at_call 30; refine (took_calls _).mono ?_; rintro e w' ⟨rfl, hT⟩)
        go_ret
        exact ⟨rfl, hB.trans (hT.mono hB.size)⟩
end Go.Proofs.Ytidnkckfkgaooaa.Al
