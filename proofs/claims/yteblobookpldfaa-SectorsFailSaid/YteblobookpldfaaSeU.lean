/- A failure that is set is a crash at that change: the law's walk. -/
import Derived.Test.YteblobookpldfaaSeT
import Derived.Test.YteblobookpldfaaOpn
namespace Go.Proofs.Yteblobookpldfaa.Se
open Go.RowKit Go.Shelf Go.Proofs Go.Sort
attribute [local go_sem] Oper.semAt_some

theorem BRow.form {w : World} {v : Value} {L : List UInt8} (h : BRow w v L) : ∃ o c, v = .slice o L.length c := by
  rcases h with ⟨rfl, rfl⟩ | ⟨a, c, rfl, _⟩
  · exact ⟨none, 0, rfl⟩
  · exact ⟨some a, c, rfl⟩
theorem BRow.at' {w : World} {o : Option Addr} {n c : Nat} {L : List UInt8} (h : BRow w (.slice o n c) L) (i : Nat) (x : UInt8) (hi : L[i]? = some x) : ∃ a, o = some a ∧ w.cell? (a.add i) = some (.int .u8 (x.toNat : Int)) := by
  rcases h with ⟨h1, rfl⟩ | ⟨a, cap, h1, h2⟩
  · cases hi
  · obtain ⟨rfl, rfl, rfl⟩ := Value.slice.inj h1
    exact ⟨a, rfl, h2 i x hi⟩
theorem BRow.keepB {w w' : World} {v : Value} {L : List UInt8} (h : BRow w v L) (hB : Below w.heap.size w w') : BRow w' v L := by
  rcases h with h | ⟨a, cap, h1, h2⟩
  · exact .inl h
  · exact .inr ⟨a, cap, h1, fun i x hi => (hB.cell (lt_of_cell (h2 i x hi))).trans (h2 i x hi)⟩
/-- A sector of a number's byte. -/
theorem sector_num (W : World) (i : Nat) (hi : i < 256) : Calls Try.prog 23 #[.int .u8 (i : Int)] W fun e w' => e = .returned (.string (secS (UInt8.ofNat i))) ∧ Below W.heap.size W w' := by
  have h := sector_calls W (UInt8.ofNat i)
  rw [UInt8.toNat_ofNat_of_lt' (by simp [UInt8.size]; omega)] at h
  exact h
set_option maxRecDepth 100000 in
set_option maxHeartbeats 8000000 in
theorem sectorsFail_calls (w : World) (vl vk : Value) (l : List UInt8) (N : UInt8) (ks : List Bool) (hl : BRow w vl l) (hk : KRow w vk ks) :
    Calls Try.prog 5 #[vl, .int .u8 (N.toNat : Int), vk] w fun e w' => e = .returned (.bool true) ∧ Below w.heap.size w w' := by
  obtain ⟨o, c, rfl⟩ := hl.form
  obtain ⟨o2, c2, rfl⟩ := hk.form
  have HS := Lib.hid spun_calls
  have hn256 : N.toNat < 256 := by have := N.toNat_lt; omega
  generalize N.toNat = n at *
  by_cases h1 : 40 < l.length ∨ 60 < ks.length
  · by_cases h2 : 40 < l.length
    · have d1 : (40 : Int) < (l.length : Int) := by omega
      clear hl hk
      go_enter Try.func5, Try.ntmps5
      go_wp2_with (go_at_call 8; refine (HS.out _).mono ?_; rintro e w' ⟨rfl, hT⟩)
      go_ret
      exact ⟨rfl, hT⟩
    · have d1 : ¬ (40 : Int) < (l.length : Int) := by omega
      have d2 : (60 : Int) < (ks.length : Int) := by omega
      clear hl hk
      go_enter Try.func5, Try.ntmps5
      go_wp2_with (go_at_call 8; refine (HS.out _).mono ?_; rintro e w' ⟨rfl, hT⟩)
      go_ret
      exact ⟨rfl, hT⟩
  · have d1 : ¬ (40 : Int) < (l.length : Int) := by omega
    have d2 : ¬ (60 : Int) < (ks.length : Int) := by omega
    have hl40 : l.length ≤ 40 := by omega
    have hk60 : ks.length ≤ 60 := by omega
    clear h1
    obtain ⟨a0, ea0, hI0⟩ := FailI.init n ks
    have HN : Hid (Calls Try.prog 9 #[.int .i64 8] w fun e W' => ∃ p, e = .returned (.tuple #[.pointer (some ⟨p, 0, none⟩), .int .i64 0]) ∧ D1 w p (dN 8) W') := Lib.hid (D1.new w w (Below.refl _ _) 8 (by omega) (by omega))
    have HN2 : Hid (∀ (W : World) (p : Nat), D1 w p (dN 8) W → Calls Try.prog 9 #[.int .i64 8] W fun e W' => ∃ q, e = .returned (.tuple #[.pointer (some ⟨q, 0, none⟩), .int .i64 0]) ∧ D2 w p q (dN 8) (dN 8) W') := Lib.hid (fun W p h => h.new2 8 (by omega) (by omega))
    have HF : Hid (∀ (W : World) (p q : Nat), D2 w p q (dN 8) (dN 8) W → Calls Try.prog 18 #[.pointer (some ⟨p, 0, none⟩), .int .i64 (n : Int), .slice o2 ks.length c2] W fun e W' => e = .returned (.int .i64 0) ∧ D2 w p q a0 (dN 8) W') := Lib.hid (fun W p q h => h.fail (ok_new 8 (by decide)) n _ ks hk (by omega) ea0)
    clear ea0
    have HI0 := Lib.hid hI0
    have HL := Lib.hid hl
    have HK := Lib.hid hk
    clear hI0 hl hk
    go_enter Try.func5, Try.ntmps5
    go_wp2_with (first
      | (go_at_call 9; with_reducible refine HN.out.mono ?_; rintro e w1 ⟨p, rfl, g1⟩)
      | (go_at_call 9; with_reducible refine (HN2.out _ _ g1).mono ?_; rintro e w2 ⟨q, rfl, g2⟩; clear g1)
      | (go_at_call 18; with_reducible refine (HF.out _ _ _ g2).mono ?_; rintro e w3 ⟨rfl, g3⟩; clear g2))
    go_loopg [11, 12, 13, 14, 15, 16, 17, 18] l.length (fun k v11 _ _ _ _ _ _ _ wr => ∃ (i : Nat) (a b : Dk), v11 = .int .i64 (i : Int) ∧ i ≤ l.length ∧ D2 w p q a b wr ∧ Hid (FailI n i ks a b) ∧ k = l.length - i)
    case atStart => exact ⟨0, a0, dN 8, rfl, by omega, g3, HI0, rfl⟩
    case round =>
      clear g3 HI0
      obtain ⟨i, a, b, rfl, hi, g, HI, rfl⟩ := hrel
      by_cases hil : i < l.length
      · obtain ⟨x, hx⟩ : ∃ x, l[i]? = some x := ⟨_, List.getElem?_eq_getElem hil⟩
        obtain ⟨ad, rfl, hc0⟩ := HL.out.at' i x hx
        have HCW := Lib.hid (fun W (hW : Below w.heap.size w W) => (hW.cell (lt_of_cell hc0)).trans hc0)
        have hc := HCW.out _ g.1
        clear hc0
        have e1 : (i : Int) < (l.length : Int) := by omega
        have e2 : ((i : Int)).toNat = i := by omega
        have e3 : (0 : Int) ≤ (i : Int) := by omega
        clear hx
        generalize hx' : x.toNat = y at *
        clear hx'
        have HSec := Lib.hid (fun W => sector_num W i (by omega))
        have hsz := secS_size (UInt8.ofNat i)
        generalize secS (UInt8.ofNat i) = s at *
        by_cases hin : i < n
        · have e4 : (i : Int) < (n : Int) := by omega
          by_cases hy : 200 ≤ y
          · have e5 : (200 : Int) ≤ (y : Int) := by omega
            obtain ⟨a', b', q1, q2, hI'⟩ := HI.out.flush hin
            have F1 : Hid (∀ W, D2 w p q a b W → Calls Try.prog 15 #[.pointer (some ⟨p, 0, none⟩)] W fun e W' => e = .returned (.int .i64 0) ∧ D2 w p q a' b W') := Lib.hid (fun W h => h.flush (HI.out.oka (by omega)) q1)
            have F2 : Hid (∀ W, D2 w p q a' b W → Calls Try.prog 15 #[.pointer (some ⟨q, 0, none⟩)] W fun e W' => e = .returned (.int .i64 0) ∧ D2 w p q a' b' W') := Lib.hid (fun W h => (h.symm.flush HI.out.ok q2).mono (by rintro e W' ⟨h1, h2⟩; exact ⟨h1, h2.symm⟩))
            have U1 : Hid (∀ W, D2 w p q a' b' W → Calls Try.prog 21 #[.pointer (some ⟨p, 0, none⟩)] W fun e W' => e = .returned (.bool true) ∧ W = W') := Lib.hid (fun W h => h.up (hI'.oka (by omega)) true (by rw [hI'.eq]; exact hI'.up))
            clear q1 q2 HI
            have HI2 := Lib.hid hI'
            clear hI'
            go_wp2_with (first
              | (go_at_call 15; with_reducible refine (F1.out _ g).mono ?_; rintro e w4 ⟨rfl, g4⟩; clear g)
              | (go_at_call 15; with_reducible refine (F2.out _ g4).mono ?_; rintro e w5 ⟨rfl, g5⟩; clear g4)
              | (go_at_call 21; with_reducible refine (U1.out _ g5).mono ?_; rintro e w6 ⟨rfl, rfl⟩))
            go_roundg (l.length - (i + 1))
            case measure => omega
            case rel => exact ⟨i + 1, a', b', by simp, by omega, g5, HI2, rfl⟩
          · have e5 : ¬ (200 : Int) ≤ (y : Int) := by omega
            obtain ⟨r, hr8, em⟩ : ∃ r : Nat, r < 8 ∧ (y : Int).tmod 8 = (r : Int) := ⟨y % 8, Nat.mod_lt _ (by decide), by rw [Int.tmod_eq_emod_of_nonneg (by omega)]; omega⟩
            obtain ⟨a', b', q1, q2, hI'⟩ := HI.out.write hin hr8 hsz
            have F1 : Hid (∀ W, D2 w p q a b W → Calls Try.prog 14 #[.pointer (some ⟨p, 0, none⟩), .int .i64 (r : Int), .string s] W fun e W' => e = .returned (.int .i64 0) ∧ D2 w p q a' b W') := Lib.hid (fun W h => h.write (HI.out.oka (by omega)) (by omega) _ s q1)
            have F2 : Hid (∀ W, D2 w p q a' b W → Calls Try.prog 14 #[.pointer (some ⟨q, 0, none⟩), .int .i64 (r : Int), .string s] W fun e W' => e = .returned (.int .i64 0) ∧ D2 w p q a' b' W') := Lib.hid (fun W h => (h.symm.write HI.out.ok (by omega) _ s q2).mono (by rintro e W' ⟨h1, h2⟩; exact ⟨h1, h2.symm⟩))
            have U1 : Hid (∀ W, D2 w p q a' b' W → Calls Try.prog 21 #[.pointer (some ⟨p, 0, none⟩)] W fun e W' => e = .returned (.bool true) ∧ W = W') := Lib.hid (fun W h => h.up (hI'.oka (by omega)) true (by rw [hI'.eq]; exact hI'.up))
            clear q1 q2 HI
            have HI2 := Lib.hid hI'
            clear hI'
            have ew : IntKind.u8.wrap (i : Int) = (i : Int) := by rw [IntKind.wrap_u8]; omega
            have ew2 : IntKind.i64.wrap (y : Int) = (y : Int) := by rw [IntKind.wrap_i64]; omega
            have hcq : ∀ d os, (Go.Sort.grow (redrawn wr d) os).cell? (ad.add i) = some (.int .u8 (y : Int)) := fun d os => ((below_regrown wr d os).cell (lt_of_cell hc)).trans hc
            go_upto_region 15 with fail
            refine QT.wp_region_below_tail 10 (by kernel_rfl) (by kernel_rfl) ?_
            simp only [List.take_succ_cons, List.take_zero, List.drop_succ_cons, List.drop_zero]
            repeat (quiet_step ((go_at_call 23; exact Calls.regrown_of (HSec.out _))))
            refine wpQuiet_nil ?_
            intro w4 hw'
            obtain ⟨pq, hw''⟩ := hw'
            subst hw''
            replace g := g.keepB (below_regrown wr pq.d pq.os)
            go_wp2_with (go_at_call 14; with_reducible refine (F1.out _ g).mono ?_; rintro e w5 ⟨rfl, g4⟩; clear g)
            go_upto_region 16 with fail
            have hcq2 : ∀ d os, (Go.Sort.grow (redrawn w5 d) os).cell? (ad.add i) = some (.int .u8 (y : Int)) := fun d os => HCW.out _ (g4.1.trans ((below_regrown w5 d os).mono g4.1.size))
            refine QT.wp_region_below_tail 10 (by kernel_rfl) (by kernel_rfl) ?_
            simp only [List.take_succ_cons, List.take_zero, List.drop_succ_cons, List.drop_zero]
            repeat (quiet_step ((go_at_call 23; exact Calls.regrown_of (HSec.out _))))
            refine wpQuiet_nil ?_
            intro w6 hw'
            obtain ⟨pq2, hw''⟩ := hw'
            subst hw''
            replace g4 := g4.keepB (below_regrown w5 pq2.d pq2.os)
            go_wp2_with (first
              | (go_at_call 14; with_reducible refine (F2.out _ g4).mono ?_; rintro e w7 ⟨rfl, g5⟩; clear g4)
              | (go_at_call 21; with_reducible refine (U1.out _ g5).mono ?_; rintro e w8 ⟨rfl, rfl⟩))
            go_roundg (l.length - (i + 1))
            case measure => omega
            case rel => exact ⟨i + 1, a', b', by simp, by omega, g5, HI2, rfl⟩
        · obtain rfl : i = n := by have := HI.out.hi; omega
          have e4 : ¬ (i : Int) < (i : Int) := by omega
          by_cases hy : 200 ≤ y
          · have e5 : (200 : Int) ≤ (y : Int) := by omega
            obtain ⟨b', hb'⟩ : ∃ b', b' = b := ⟨_, rfl⟩
            obtain ⟨a', q1, hE⟩ := HI.out.flushE rfl (by omega)
            have F1 : Hid (∀ W, D2 w p q a b W → Calls Try.prog 15 #[.pointer (some ⟨p, 0, none⟩)] W fun e W' => e = .returned (.int .i64 61) ∧ D2 w p q a' b W') := Lib.hid (fun W h => h.flush (HI.out.oka (by omega)) q1)
            rw [← hb'] at hE F1
            clear q1 HI
            obtain ⟨a2, b1, b2, q3, okb1, q4, q5, hF⟩ := hE.next
            have U1 : Hid (∀ W, D2 w p q a' b' W → Calls Try.prog 21 #[.pointer (some ⟨p, 0, none⟩)] W fun e W' => e = .returned (.bool false) ∧ W = W') := Lib.hid (fun W h => h.up hE.oka false (by rw [hE.down]; rfl))
            have C1 : Hid (∀ W, D2 w p q a' b' W → Calls Try.prog 16 #[.pointer (some ⟨q, 0, none⟩), .slice o2 ks.length c2] W fun e W' => e = .returned (.int .i64 0) ∧ D2 w p q a' b1 W') := Lib.hid (fun W h => (h.symm.crash hE.okb _ ks HK.out q3).mono (by rintro e W' ⟨h1, h2⟩; exact ⟨h1, h2.symm⟩))
            have S1 : Hid (∀ W, D2 w p q a' b1 W → Calls Try.prog 17 #[.pointer (some ⟨p, 0, none⟩)] W fun e W' => e = .returned (.int .i64 0) ∧ D2 w p q a2 b1 W') := Lib.hid (fun W h => h.start hE.oka q4)
            have S2 : Hid (∀ W, D2 w p q a2 b1 W → Calls Try.prog 17 #[.pointer (some ⟨q, 0, none⟩)] W fun e W' => e = .returned (.int .i64 0) ∧ D2 w p q a2 b2 W') := Lib.hid (fun W h => (h.symm.start okb1 q5).mono (by rintro e W' ⟨h1, h2⟩; exact ⟨h1, h2.symm⟩))
            have HFF := Lib.hid hF
            clear q3 q4 q5 hF okb1 hE
            go_wp2_with (first
              | (go_at_call 15; with_reducible refine (F1.out _ (hb' ▸ g)).mono ?_; rintro e w4 ⟨rfl, g5⟩; clear g)
              | (go_at_call 21; with_reducible refine (U1.out _ g5).mono ?_; rintro e w8 ⟨rfl, rfl⟩)
              | (go_at_call 16; with_reducible refine (C1.out _ g5).mono ?_; rintro e w9 ⟨rfl, g7⟩; clear g5)
              | (go_at_call 17; with_reducible refine (S1.out _ g7).mono ?_; rintro e w10 ⟨rfl, g8⟩; clear g7)
              | (go_at_call 17; with_reducible refine (S2.out _ g8).mono ?_; rintro e w11 ⟨rfl, g9⟩; clear g8))
            go_loopg [14, 15, 16, 17, 18] 8 (fun k v14 _ _ _ _ wr => ∃ j : Nat, v14 = .int .i64 (j : Int) ∧ j ≤ 8 ∧ D2 w p q a2 b2 wr ∧ k = 8 - j)
            case atStart => exact ⟨0, rfl, by omega, g9, rfl⟩
            case round =>
              clear g9
              obtain ⟨j, rfl, hj, g10, rfl⟩ := hrel
              by_cases hj8 : j < 8
              · have f1 : (j : Int) < 8 := by omega
                obtain ⟨rs, r1, r2⟩ := HFF.out.read hj8
                have R1 : Hid (∀ W, D2 w p q a2 b2 W → Calls Try.prog 13 #[.pointer (some ⟨p, 0, none⟩), .int .i64 (j : Int)] W fun e W' => e = .returned (.tuple #[.string rs, .int .i64 0]) ∧ D2 w p q a2 b2 W') := Lib.hid (fun W h => h.read HFF.out.oka (by omega) _ rs 0 r1)
                have R2 : Hid (∀ W, D2 w p q a2 b2 W → Calls Try.prog 13 #[.pointer (some ⟨q, 0, none⟩), .int .i64 (j : Int)] W fun e W' => e = .returned (.tuple #[.string rs, .int .i64 0]) ∧ D2 w p q a2 b2 W') := Lib.hid (fun W h => (h.symm.read HFF.out.okb (by omega) _ rs 0 r2).mono (by rintro e W' ⟨h1, h2⟩; exact ⟨h1, h2.symm⟩))
                clear r1 r2
                go_wp2_with (first
                  | (go_at_call 13; with_reducible refine (R1.out _ g10).mono ?_; rintro e w10 ⟨rfl, g11⟩; clear g10)
                  | (go_at_call 13; with_reducible refine (R2.out _ g11).mono ?_; rintro e w11 ⟨rfl, g12⟩; clear g11))
                go_roundg (8 - (j + 1))
                case measure => omega
                case rel => exact ⟨j + 1, by simp, by omega, g12, rfl⟩
              · have f1 : ¬ (j : Int) < 8 := by omega
                obtain ⟨z, hz⟩ : ∃ z, z = secS 122 := ⟨_, rfl⟩
                obtain ⟨a3, a4, q6, ok3, q7⟩ := HFF.out.last (s := z) (by rw [hz]; exact secS_size 122)
                have HZ : Hid (∀ W, Calls Try.prog 23 #[.int .u8 122] W fun e w' => e = .returned (.string z) ∧ Below W.heap.size W w') := Lib.hid (fun W => by rw [hz]; exact sector_calls W 122)
                have W1 : Hid (∀ W, D2 w p q a2 b2 W → Calls Try.prog 14 #[.pointer (some ⟨p, 0, none⟩), .int .i64 0, .string z] W fun e W' => e = .returned (.int .i64 0) ∧ D2 w p q a3 b2 W') := Lib.hid (fun W h => h.write HFF.out.oka (by omega) _ z q6)
                have L1 : Hid (∀ W, D2 w p q a3 b2 W → Calls Try.prog 15 #[.pointer (some ⟨p, 0, none⟩)] W fun e W' => e = .returned (.int .i64 0) ∧ D2 w p q a4 b2 W') := Lib.hid (fun W h => h.flush ok3 q7)
                clear q6 q7 ok3 hz HFF
                go_wp2_with (first
                  | (go_at_call 23; with_reducible refine (HZ.out _).mono ?_; rintro e w12 ⟨rfl, hB12⟩; replace g10 := g10.keepB hB12)
                  | (go_at_call 14; with_reducible refine (W1.out _ g10).mono ?_; rintro e w13 ⟨rfl, g13⟩; clear g10)
                  | (go_at_call 15; with_reducible refine (L1.out _ g13).mono ?_; rintro e w14 ⟨rfl, g14⟩; clear g13)
                  | (go_at_call 8; refine (HS.out _).mono ?_; rintro e w15 ⟨rfl, hT⟩))
                go_ret
                exact ⟨rfl, g14.1.trans (hT.mono g14.1.size)⟩
          · have e5 : ¬ (200 : Int) ≤ (y : Int) := by omega
            obtain ⟨r, hr8, em⟩ : ∃ r : Nat, r < 8 ∧ (y : Int).tmod 8 = (r : Int) := ⟨y % 8, Nat.mod_lt _ (by decide), by rw [Int.tmod_eq_emod_of_nonneg (by omega)]; omega⟩
            obtain ⟨a', b', q1, q2, hE⟩ := HI.out.writeE rfl (by omega) hr8 hsz
            have F1 : Hid (∀ W, D2 w p q a b W → Calls Try.prog 14 #[.pointer (some ⟨p, 0, none⟩), .int .i64 (r : Int), .string s] W fun e W' => e = .returned (.int .i64 61) ∧ D2 w p q a' b W') := Lib.hid (fun W h => h.write (HI.out.oka (by omega)) (by omega) _ s q1)
            have F2 : Hid (∀ W, D2 w p q a' b W → Calls Try.prog 14 #[.pointer (some ⟨q, 0, none⟩), .int .i64 (r : Int), .string s] W fun e W' => e = .returned (.int .i64 0) ∧ D2 w p q a' b' W') := Lib.hid (fun W h => (h.symm.write HI.out.ok (by omega) _ s q2).mono (by rintro e W' ⟨h1, h2⟩; exact ⟨h1, h2.symm⟩))
            clear q1 q2 HI
            have ew : IntKind.u8.wrap (i : Int) = (i : Int) := by rw [IntKind.wrap_u8]; omega
            have ew2 : IntKind.i64.wrap (y : Int) = (y : Int) := by rw [IntKind.wrap_i64]; omega
            have hcq : ∀ d os, (Go.Sort.grow (redrawn wr d) os).cell? (ad.add i) = some (.int .u8 (y : Int)) := fun d os => ((below_regrown wr d os).cell (lt_of_cell hc)).trans hc
            go_upto_region 15 with fail
            refine QT.wp_region_below_tail 10 (by kernel_rfl) (by kernel_rfl) ?_
            simp only [List.take_succ_cons, List.take_zero, List.drop_succ_cons, List.drop_zero]
            repeat (quiet_step ((go_at_call 23; exact Calls.regrown_of (HSec.out _))))
            refine wpQuiet_nil ?_
            intro w4 hw'
            obtain ⟨pq, hw''⟩ := hw'
            subst hw''
            replace g := g.keepB (below_regrown wr pq.d pq.os)
            go_upto_region 16 with (go_at_call 14; with_reducible refine (F1.out _ g).mono ?_; rintro e w5 ⟨rfl, g4⟩; clear g)
            have hcq2 : ∀ d os, (Go.Sort.grow (redrawn w5 d) os).cell? (ad.add i) = some (.int .u8 (y : Int)) := fun d os => HCW.out _ (g4.1.trans ((below_regrown w5 d os).mono g4.1.size))
            refine QT.wp_region_below_tail 10 (by kernel_rfl) (by kernel_rfl) ?_
            simp only [List.take_succ_cons, List.take_zero, List.drop_succ_cons, List.drop_zero]
            repeat (quiet_step ((go_at_call 23; exact Calls.regrown_of (HSec.out _))))
            refine wpQuiet_nil ?_
            intro w6 hw'
            obtain ⟨pq2, hw''⟩ := hw'
            subst hw''
            replace g4 := g4.keepB (below_regrown w5 pq2.d pq2.os)
            obtain ⟨a2, b1, b2, q3, okb1, q4, q5, hF⟩ := hE.next
            have U1 : Hid (∀ W, D2 w p q a' b' W → Calls Try.prog 21 #[.pointer (some ⟨p, 0, none⟩)] W fun e W' => e = .returned (.bool false) ∧ W = W') := Lib.hid (fun W h => h.up hE.oka false (by rw [hE.down]; rfl))
            have C1 : Hid (∀ W, D2 w p q a' b' W → Calls Try.prog 16 #[.pointer (some ⟨q, 0, none⟩), .slice o2 ks.length c2] W fun e W' => e = .returned (.int .i64 0) ∧ D2 w p q a' b1 W') := Lib.hid (fun W h => (h.symm.crash hE.okb _ ks HK.out q3).mono (by rintro e W' ⟨h1, h2⟩; exact ⟨h1, h2.symm⟩))
            have S1 : Hid (∀ W, D2 w p q a' b1 W → Calls Try.prog 17 #[.pointer (some ⟨p, 0, none⟩)] W fun e W' => e = .returned (.int .i64 0) ∧ D2 w p q a2 b1 W') := Lib.hid (fun W h => h.start hE.oka q4)
            have S2 : Hid (∀ W, D2 w p q a2 b1 W → Calls Try.prog 17 #[.pointer (some ⟨q, 0, none⟩)] W fun e W' => e = .returned (.int .i64 0) ∧ D2 w p q a2 b2 W') := Lib.hid (fun W h => (h.symm.start okb1 q5).mono (by rintro e W' ⟨h1, h2⟩; exact ⟨h1, h2.symm⟩))
            have HFF := Lib.hid hF
            clear q3 q4 q5 hF okb1 hE
            go_wp2_with (first
              | (go_at_call 14; with_reducible refine (F2.out _ g4).mono ?_; rintro e w7 ⟨rfl, g5⟩; clear g4)
              | (go_at_call 21; with_reducible refine (U1.out _ g5).mono ?_; rintro e w8 ⟨rfl, rfl⟩)
              | (go_at_call 16; with_reducible refine (C1.out _ g5).mono ?_; rintro e w9 ⟨rfl, g7⟩; clear g5)
              | (go_at_call 17; with_reducible refine (S1.out _ g7).mono ?_; rintro e w10 ⟨rfl, g8⟩; clear g7)
              | (go_at_call 17; with_reducible refine (S2.out _ g8).mono ?_; rintro e w11 ⟨rfl, g9⟩; clear g8))
            go_loopg [14, 15, 16, 17, 18] 8 (fun k v14 _ _ _ _ wr => ∃ j : Nat, v14 = .int .i64 (j : Int) ∧ j ≤ 8 ∧ D2 w p q a2 b2 wr ∧ k = 8 - j)
            case atStart => exact ⟨0, rfl, by omega, g9, rfl⟩
            case round =>
              clear g9
              obtain ⟨j, rfl, hj, g10, rfl⟩ := hrel
              by_cases hj8 : j < 8
              · have f1 : (j : Int) < 8 := by omega
                obtain ⟨rs, r1, r2⟩ := HFF.out.read hj8
                have R1 : Hid (∀ W, D2 w p q a2 b2 W → Calls Try.prog 13 #[.pointer (some ⟨p, 0, none⟩), .int .i64 (j : Int)] W fun e W' => e = .returned (.tuple #[.string rs, .int .i64 0]) ∧ D2 w p q a2 b2 W') := Lib.hid (fun W h => h.read HFF.out.oka (by omega) _ rs 0 r1)
                have R2 : Hid (∀ W, D2 w p q a2 b2 W → Calls Try.prog 13 #[.pointer (some ⟨q, 0, none⟩), .int .i64 (j : Int)] W fun e W' => e = .returned (.tuple #[.string rs, .int .i64 0]) ∧ D2 w p q a2 b2 W') := Lib.hid (fun W h => (h.symm.read HFF.out.okb (by omega) _ rs 0 r2).mono (by rintro e W' ⟨h1, h2⟩; exact ⟨h1, h2.symm⟩))
                clear r1 r2
                go_wp2_with (first
                  | (go_at_call 13; with_reducible refine (R1.out _ g10).mono ?_; rintro e w10 ⟨rfl, g11⟩; clear g10)
                  | (go_at_call 13; with_reducible refine (R2.out _ g11).mono ?_; rintro e w11 ⟨rfl, g12⟩; clear g11))
                go_roundg (8 - (j + 1))
                case measure => omega
                case rel => exact ⟨j + 1, by simp, by omega, g12, rfl⟩
              · have f1 : ¬ (j : Int) < 8 := by omega
                obtain ⟨z, hz⟩ : ∃ z, z = secS 122 := ⟨_, rfl⟩
                obtain ⟨a3, a4, q6, ok3, q7⟩ := HFF.out.last (s := z) (by rw [hz]; exact secS_size 122)
                have HZ : Hid (∀ W, Calls Try.prog 23 #[.int .u8 122] W fun e w' => e = .returned (.string z) ∧ Below W.heap.size W w') := Lib.hid (fun W => by rw [hz]; exact sector_calls W 122)
                have W1 : Hid (∀ W, D2 w p q a2 b2 W → Calls Try.prog 14 #[.pointer (some ⟨p, 0, none⟩), .int .i64 0, .string z] W fun e W' => e = .returned (.int .i64 0) ∧ D2 w p q a3 b2 W') := Lib.hid (fun W h => h.write HFF.out.oka (by omega) _ z q6)
                have L1 : Hid (∀ W, D2 w p q a3 b2 W → Calls Try.prog 15 #[.pointer (some ⟨p, 0, none⟩)] W fun e W' => e = .returned (.int .i64 0) ∧ D2 w p q a4 b2 W') := Lib.hid (fun W h => h.flush ok3 q7)
                clear q6 q7 ok3 hz HFF
                go_wp2_with (first
                  | (go_at_call 23; with_reducible refine (HZ.out _).mono ?_; rintro e w12 ⟨rfl, hB12⟩; replace g10 := g10.keepB hB12)
                  | (go_at_call 14; with_reducible refine (W1.out _ g10).mono ?_; rintro e w13 ⟨rfl, g13⟩; clear g10)
                  | (go_at_call 15; with_reducible refine (L1.out _ g13).mono ?_; rintro e w14 ⟨rfl, g14⟩; clear g13)
                  | (go_at_call 8; refine (HS.out _).mono ?_; rintro e w15 ⟨rfl, hT⟩))
                go_ret
                exact ⟨rfl, g14.1.trans (hT.mono g14.1.size)⟩
      · have e1 : ¬ (i : Int) < (l.length : Int) := by omega
        go_wp2_with (go_at_call 8; refine (HS.out _).mono ?_; rintro e w' ⟨rfl, hT⟩)
        go_ret
        exact ⟨rfl, g.1.trans (hT.mono g.1.size)⟩
theorem sectorsFail_walk (w : World) {vl vk : Value} (n : Int) (l : List UInt8) (ks : List Bool) (hl : BRow w vl l) (hn : (Lit.int .u8 n).wf = true) (hk : KRow w vk ks) :
    Calls Try.prog 5 #[vl, .int .u8 n, vk] w fun e w' => e = .returned (.bool true) ∧ Below w.heap.size w w' := by
  obtain ⟨N, rfl⟩ := u8_some hn
  exact sectorsFail_calls w vl vk l N ks hl hk
end Go.Proofs.Yteblobookpldfaa.Se
