/- What is taken stands apart: the law's walk. -/
import Derived.Test.YtidnkckfkgaooaaAl27
namespace Go.Proofs.Ytidnkckfkgaooaa.Al
open Go.RowKit Go.Shelf Go.Proofs Go.Proofs.Ytidnkckfkgaooaa.Ext Go.Proofs.Ytidnkckfkgaooaa.Pure Go.Proofs.YtidnkckfkgaooaaW.PrintWords Go.Proofs.YtidnkckfkgaooaaW.PrintLast Go.Proofs.YtidnkckfkgaooaaW.PrintMore

theorem RowI.look {W : World} {p g : Nat} {a : Addr} {n c : Nat} {L : List (Int × Int)} (h : RowI W p g (.slice (some a) n c) L) (i : Nat) (x : Int × Int) (hi : L[i]? = some x) : W.cell? (a.add (i * 2)) = some (.int .i64 x.1) ∧ W.cell? ⟨(a.add (i * 2)).block, (a.add (i * 2)).off + 1, none⟩ = some (.int .i64 x.2) := row_at h.1 i x hi
theorem setE_nil (on : Bool) (s : ByteArray) : setE on [] s = s := rfl
theorem takeS_eq (s : ByteArray) (N : Nat) (n : Int) : takeS s N n = setE true (takeL s N n) s := rfl
theorem of_ok (s : ByteArray) (N : Nat) (f : Nat → Bool) (h : Bits s N f) (h1 : 1 ≤ N) (h2 : N ≤ 4096) (w : World) : Calls Try.prog 40 #[.string s, .int .i64 (N : Int)] w (NEnd w N s) :=
  (of_calls s N w h1 h2).mono (fun e w' k => by
    rcases k with ⟨_, k⟩ | ⟨k, _⟩
    · exact k
    · exact absurd h.ok k)
attribute [local irreducible] takeL takeS giveE setN setE Bits sumE endE countN cov covF Go.wpQuiet
set_option maxRecDepth 100000 in
set_option maxHeartbeats 20000000 in
theorem allocApart_calls (w : World) (a0 : Nat) (v : Value) (A : List Nat) (bk : Int) (ha : a0 < 256) (hr : U8Row w v A) : Calls Try.prog 11 #[.int .u8 (a0 : Int), v, .int .u64 bk] w fun e w' => e = .returned (.bool true) ∧ Below w.heap.size w w' := by
  obtain ⟨o, c, rfl⟩ := hr.form
  by_cases h64 : 64 < A.length
  · have c1 : (64 : Int) < (A.length : Int) := by omega
    go_enter Try.func11, Try.ntmps11
    go_wp2_with (go_at_call 30; refine (took_calls _).mono ?_; rintro e w' ⟨rfl, hT⟩)
    go_ret
    exact ⟨rfl, hT⟩
  · have c1 : ¬ (64 : Int) < (A.length : Int) := by omega
    have hA : A.length ≤ 64 := by omega
    clear h64
    obtain ⟨N, hN⟩ : ∃ N, N = 1 + a0 % 200 := ⟨_, rfl⟩
    have e1 : IntKind.i64.wrap (1 + (a0 : Int) % 200) = (N : Int) := by rw [IntKind.wrap_i64]; omega
    have n1 : 1 ≤ N := by omega
    have n2 : N ≤ 200 := by omega
    clear hN
    obtain ⟨i0, hi, hz0, hz1, hz2⟩ := info_parts info4
    have hmk : ∀ W : World, (Instr.makeSlice 65 (.int .i64 (N : Int)) (.int .i64 (N : Int))).run Try.prog W = .ok (.slice (some ⟨W.heap.size, 0, none⟩) N N) (W.alloc (.cells (madeCells #[.bool false] N) 4)) := fun W => by
      have h := run_make (P := Try.prog) W 65 4 i0 (.bool false) Try.underlying65 hi hz0 .i64 .i64 N N (by omega) (by omega) (by rw [hz2]; omega) (by omega)
      rw [hz1, Nat.mul_one] at h
      simpa [Value.cells] using h
    clear hi hz0 hz1 hz2
    have HNW := Lib.hid (newI w N n1 (by omega))
    have hb0 := bits_zero N
    have hRow := Lib.hid hr
    clear hr
    go_enter Try.func11, Try.ntmps11
    go_wp2_with (go_at_call 25; refine HNW.out.mono ?_; rintro e W0 ⟨p, rfl, hT⟩)
    clear hmk HNW
    generalize zeroS ((N + 7) / 8) = s0 at *
    have I0 : ApI w p W0.heap.size N s0 (fun _ => false) (W0.alloc (.cells (madeCells #[.bool false] N) 4)) := by
      have hB : Below W0.heap.size W0 (W0.alloc (.cells (madeCells #[.bool false] N) 4)) := (Below.refl _ _).alloc (Nat.le_refl _) _
      refine ⟨hT.below.trans (hB.mono hT.below.size), hT.hp, hT.m.keepB hB, ?_⟩
      have := World.ownsRow_lit (base := w.heap.size) (e := 4) (size := 1) W0 (madeCells #[.bool false] N) N hT.below.size (by unfold maxLen; omega) (by rw [size_madeB]; omega)
      rw [madeB] at this
      exact this
    clear hT
    generalize W0.alloc (.cells (madeCells #[.bool false] N) 4) = W1 at *
    generalize W0.heap.size = g at *
    obtain ⟨ag, hag⟩ : ∃ ag, ag = (⟨g, 0, none⟩ : Addr) := ⟨_, rfl⟩
    rw [← hag]
    have HAG := Lib.hid hag
    clear hag
    go_loopg [11, 12, 13, 14, 15, 16, 17, 18, 19, 20, 21, 22] A.length (fun k v11 _ _ _ _ _ _ _ _ _ _ _ wr => ∃ (i : Nat) (s : ByteArray) (f : Nat → Bool), v11 = .int .i64 (i : Int) ∧ i ≤ A.length ∧ Aside0 (Bits s N f) ∧ ApI w p g N s f wr ∧ k = A.length - i)
    case atStart => exact ⟨0, s0, _, rfl, by omega, ⟨hb0⟩, I0, rfl⟩
    case round =>
      clear I0 hb0
      obtain ⟨i, s, f, rfl, hi, HBi, I, rfl⟩ := hrel
      have hsz : s.size ≤ 1000 := by rw [HBi.out.size]; omega
      by_cases hil : i < A.length
      · have c2 : (i : Int) < (A.length : Int) := by omega
        have c3 : ((i : Int)).toNat = i := by omega
        have c4 : (0 : Int) ≤ (i : Int) := by omega
        obtain ⟨x, hx⟩ : ∃ x, A[i]? = some x := ⟨_, List.getElem?_eq_getElem hil⟩
        obtain ⟨al, rfl, hxc, hx256⟩ := (hRow.out.keepB (I.below.mono (Nat.le_refl _))).at' i x hx
        clear hx
        obtain ⟨m, hm⟩ : ∃ m, m = 1 + x % 24 := ⟨_, rfl⟩
        have e2 : IntKind.i64.wrap (1 + (x : Int) % 24) = (m : Int) := by rw [IntKind.wrap_i64]; omega
        have m1 : 1 ≤ m := by omega
        have m2 : m ≤ 24 := by omega
        clear hm
        have HBY := Lib.hid (bytes_map wr p N s I.m)
        have HUS := Lib.hid (used_map wr p N s I.m (by omega))
        have HTK := Lib.hid (fun d => (I.keepB (pw_below_drewN (Below.refl _ _) d)).take (by omega) hsz (m : Int) (by unfold I64; omega))
        by_cases hL : takeL s N (m : Int) = []
        · have hS : takeS s N (m : Int) = s := by rw [takeS_eq, hL, setE_nil]
          rw [hL, hS] at HTK
          clear hS hL I
          go_wp2_with (first
            | (go_at_call 38; refine HBY.out.mono ?_; rintro e w' ⟨rfl, rfl⟩)
            | (go_at_call 27; refine HUS.out.mono ?_; rintro e w' ⟨rfl, ⟨d, rfl⟩⟩)
            | (go_at_call 26; refine (HTK.out d).mono ?_; rintro e W2 ⟨v, rfl, hR2, I2⟩; obtain ⟨o2, c2', rfl⟩ := hR2.1.form; clear hR2)
            | (go_at_call 38; refine (bytes_map _ p N s I2.m).mono ?_; rintro e w' ⟨rfl, rfl⟩))
          go_roundg (A.length - (i + 1))
          case measure => omega
          case rel => exact ⟨i + 1, s, f, by simp, by omega, HBi, I2, rfl⟩
        · have hK : TakeOk f N (m : Int) (takeL s N (m : Int)) := (takeL_ok HBi.out (m : Int)).resolve_left hL
          have hcnt := hK.count HBi.out
          have hgb := hK.back HBi.out
          have hbt := hK.bits HBi.out
          have hl0 : 0 < (takeL s N (m : Int)).length := List.length_pos_iff.2 hL
          have hgn := hK.not HBi.out hl0
          have hl8 := hK.len
          have htS : takeS s N (m : Int) = setE true (takeL s N (m : Int)) s := takeS_eq _ _ _
          rw [← htS] at hcnt hgb hbt
          have htz : (takeS s N (m : Int)).size ≤ 1000 := by rw [hbt.size]; omega
          have hcs : countN s ≤ 8000 := Nat.le_trans (countN_le s) (by omega)
          clear hL htS
          generalize takeS s N (m : Int) = t at *
          generalize takeL s N (m : Int) = L at *
          have HK := Lib.hid hK
          have HGB := Lib.hid hgb
          have HGN := Lib.hid hgn
          have HBT := Lib.hid hbt
          have HCN := Lib.hid hcnt
          clear hK hgb hgn hbt hcnt I
          go_wp2_with (first
            | (go_at_call 38; refine HBY.out.mono ?_; rintro e w' ⟨rfl, rfl⟩)
            | (go_at_call 27; refine HUS.out.mono ?_; rintro e w' ⟨rfl, ⟨d, rfl⟩⟩)
            | (go_at_call 26; refine (HTK.out d).mono ?_; rintro e W2 ⟨v, rfl, hR2, I2⟩; obtain ⟨o2, c2', rfl⟩ := hR2.1.form; obtain ⟨al2, rfl, _⟩ := hR2.1.at' 0 _ (List.getElem?_eq_getElem hl0)))
          clear HTK HBY HUS
          go_loopg [17, 18, 19, 20] L.length (fun k v17 v18 v19 _ wr2 => ∃ (kk d2 : Nat) (sm en : Int), v19 = .int .i64 (kk : Int) ∧ v17 = .int .i64 sm ∧ v18 = .int .i64 en ∧ kk ≤ L.length ∧ 0 ≤ sm ∧ sm ≤ 200 * (kk : Int) ∧ -1 ≤ en ∧ en ≤ (N : Int) ∧ Aside0 (sm = sumE (L.take kk) ∧ en = endE (L.take kk) (-1)) ∧ wr2 = W2.drewN d2 ∧ k = L.length - kk)
          case atStart => exact ⟨0, 0, 0, -1, rfl, rfl, rfl, by omega, by omega, by omega, by omega, by omega, ⟨by unfold sumE endE; exact ⟨rfl, rfl⟩⟩, rfl, rfl⟩
          case round =>
            obtain ⟨kk, d2, sm, en, rfl, rfl, rfl, hkk, hsm0, hsm1, hen0, hen1, HSE, rfl, rfl⟩ := hrel
            by_cases hkl : kk < L.length
            · have k1 : (kk : Int) < (L.length : Int) := by omega
              have k2 : ((kk : Int)).toNat = kk := by omega
              have k3 : (0 : Int) ≤ (kk : Int) := by omega
              obtain ⟨y, hy⟩ : ∃ y, L[kk]? = some y := ⟨_, List.getElem?_eq_getElem hkl⟩
              have hin := HK.out.inN y (List.mem_of_getElem? hy)
              have hra := rise_at L (-1) kk y HK.out.rise hy
              rw [← HSE.out.2] at hra
              unfold inE at hin
              obtain ⟨f0, c0⟩ := y
              simp only at hin hra
              obtain ⟨F, rfl⟩ := Int.eq_ofNat_of_zero_le hin.1
              obtain ⟨C, rfl⟩ := Int.eq_ofNat_of_zero_le (show 0 ≤ c0 by omega)
              obtain ⟨r0, r1⟩ := hR2.look kk _ hy
              simp only at r0 r1
              have q1 : decide ((C : Int) < 1) = false := decide_eq_false (by omega)
              have q2 : decide ((F : Int) ≤ en) = false := decide_eq_false (by omega)
              have q3 : decide ((N : Int) < (F : Int) + (C : Int)) = false := decide_eq_false (by omega)
              have q4 : F + C ≤ N := by omega
              have HSN := Lib.hid (show sm + (C : Int) = sumE (L.take (kk + 1)) ∧ (F : Int) + (C : Int) = endE (L.take (kk + 1)) (-1) from by
                rw [take_snoc hy, sum_snoc, end_snoc, ← HSE.out.1]
                exact ⟨rfl, rfl⟩)
              have HFR := Lib.hid (show ∀ jj, jj < C → f (F + jj) = false from fun jj hjj => HK.out.free _ (cov_mem L _ _ (List.mem_of_getElem? hy) (by simp only; omega) (by simp only; omega)))
              clear hin hra hy
              have w1' : IntKind.i64.wrap ((F : Int) + (C : Int)) = (F : Int) + (C : Int) := by rw [IntKind.wrap_i64]; omega
              have w2' : IntKind.i64.wrap (sm + (C : Int)) = sm + (C : Int) := by rw [IntKind.wrap_i64]; omega
              go_wp2
              refine wp_region_quiet_lit (by kernel_rfl) (by kernel_rfl) ?_
              quiet_step (fail)
              quiet_step (fail)
              quiet_step (fail)
              quiet_step (fail)
              quiet_step (fail)
              quiet_step (fail)
              quiet_step (fail)
              quiet_step (fail)
              quiet_step (fail)
              quiet_step (fail)
              quiet_step (fail)
              quiet_step (fail)
              quiet_step (fail)
              quiet_step (fail)
              quiet_step (fail)
              quiet_step (fail)
              quiet_step (fail)
              quiet_step (fail)
              quiet_step (fail)
              quiet_step (fail)
              quiet_step (fail)
              quiet_step (fail)
              quiet_step (fail)
              quiet_step (fail)
              quiet_step (fail)
              quiet_step (fail)
              quiet_step (fail)
              quiet_step (fail)
              quiet_step (fail)
              quiet_step (fail)
              refine wpQuiet_nil ?_
              intro _ hw'
              obtain ⟨nq, hw''⟩ := hw'
              subst hw''
              go_wp2
              go_loopg [20] C (fun k v20 wr3 => ∃ jj : Nat, v20 = .int .i64 (jj : Int) ∧ jj ≤ C ∧ wr3 = (W2.drewN d2).drewN nq ∧ k = C - jj)
              case atStart => exact ⟨0, rfl, by omega, rfl, rfl⟩
              case round =>
                obtain ⟨jj, rfl, hjj, rfl, rfl⟩ := hrel
                by_cases hjl : jj < C
                · have q5 : (jj : Int) < (C : Int) := by omega
                  have w3' : IntKind.i64.wrap ((F : Int) + (jj : Int)) = (F : Int) + (jj : Int) := by rw [IntKind.wrap_i64]; omega
                  have e6 : ((F : Int) + (jj : Int)).toNat = F + jj := by omega
                  have e7 : (0 : Int) ≤ (F : Int) + (jj : Int) := by omega
                  have e8 : (F : Int) + (jj : Int) < (N : Int) := by omega
                  have hb := I2.bit (F + jj) (by omega)
                  rw [HFR.out jj hjl, ← HAG.out] at hb
                  go_wp2
                  go_roundg (C - (jj + 1))
                  case measure => omega
                  case rel => exact ⟨jj + 1, by simp, by omega, by simp, rfl⟩
                · have q5 : ¬ (jj : Int) < (C : Int) := by omega
                  go_wp2
                  refine wp_region_quiet_lit (by kernel_rfl) (by kernel_rfl) ?_
                  quiet_step (fail)
                  quiet_step (fail)
                  quiet_step (fail)
                  quiet_step (fail)
                  quiet_step (fail)
                  quiet_step (fail)
                  quiet_step (fail)
                  quiet_step (fail)
                  quiet_step (fail)
                  quiet_step (fail)
                  quiet_step (fail)
                  quiet_step (fail)
                  quiet_step (fail)
                  quiet_step (fail)
                  quiet_step (fail)
                  quiet_step (fail)
                  quiet_step (fail)
                  quiet_step (fail)
                  quiet_step (fail)
                  quiet_step (fail)
                  refine wpQuiet_nil ?_
                  intro _ hw'
                  obtain ⟨nq2, hw''⟩ := hw'
                  subst hw''
                  go_wp2
                  go_roundg (L.length - (kk + 1))
                  case measure => omega
                  case rel => exact ⟨kk + 1, _, sm + (C : Int), (F : Int) + (C : Int), by simp, by simp, by simp, by omega, by omega, by omega, by omega, by omega, ⟨HSN.out⟩, rfl, rfl⟩
            · have k1 : ¬ (kk : Int) < (L.length : Int) := by omega
              have hsm : sm = (m : Int) := by rw [HSE.out.1, show kk = L.length from by omega, List.take_length]; exact HK.out.sum
              subst hsm
              clear HSE
              have I3 := I2.keepB (pw_below_drewN (Below.refl _ _) d2)
              have R3 := hR2.keepB (pw_below_drewN (Below.refl _ _) d2)
              clear I2 hR2
              generalize W2.drewN d2 = W3 at *
              have HU3 := Lib.hid (used_map W3 p N t I3.m (by omega))
              rw [HCN.out] at HU3
              have w4' : IntKind.i64.wrap ((countN s : Int) + (m : Int)) = (countN s : Int) + (m : Int) := by rw [IntKind.wrap_i64]; omega
              have d8 : ¬ (8 : Int) < (L.length : Int) := by omega
              have IX := Lib.hid (fun d => I3.keepB (pw_below_drewN (Below.refl _ _) d))
              have RX := Lib.hid (fun d => R3.keepB (pw_below_drewN (Below.refl _ _) d))
              clear I3 R3
              cases hbk : (Go.bits BinOp.and IntKind.u64 (bk / 2 ^ i) 1 == 1) with
              | true =>
                go_wp2_with (first
                  | (go_at_call 27; refine HU3.out.mono ?_; rintro e w' ⟨rfl, ⟨d4, rfl⟩⟩; have I4 := IX.out d4; have R4 := RX.out d4; clear IX RX HU3)
                  | (go_at_call 28; refine (I4.give R4 (by omega) n1 htz hl8 HK.out.inN true (by rw [HGB.out]; rfl) (t := s) (by rw [HGB.out]; rfl)).mono ?_; rintro e w5 ⟨rfl, R5, I5⟩; clear I4 R4)
                  | (go_at_call 38; refine (bytes_map _ p N s I5.m).mono ?_; rintro e w' ⟨rfl, rfl⟩)
                  | (go_at_call 28; refine (I5.give R5 (by omega) n1 hsz hl8 HK.out.inN false (by rw [HGN.out]; rfl) (t := s) (by rw [HGN.out]; rfl)).mono ?_; rintro e w6 ⟨rfl, R6, I6⟩; clear I5 R5))
                go_roundg (A.length - (i + 1))
                case measure => omega
                case rel => exact ⟨i + 1, s, f, by simp, by omega, HBi, I6, rfl⟩
              | false =>
                go_wp2_with (go_at_call 27; refine HU3.out.mono ?_; rintro e w' ⟨rfl, ⟨d4, rfl⟩⟩; have I4 := IX.out d4; have R4 := RX.out d4; clear IX RX HU3)
                generalize W3.drewN d4 = W4 at *
                go_loopg [21, 22] L.length (fun k v21 _ wr4 => ∃ kj : Nat, v21 = .int .i64 (kj : Int) ∧ kj ≤ L.length ∧ ApI w p g N t (covF L kj 0 0 f) wr4 ∧ RowI wr4 p g (.slice (some al2) L.length c2') L ∧ k = L.length - kj)
                case atStart => exact ⟨0, rfl, by omega, I4.congr fun x _ => (covF_start L f x).symm, R4, rfl⟩
                case round =>
                  clear I4 R4
                  obtain ⟨kj, rfl, hkj, I5, R5, rfl⟩ := hrel
                  by_cases hkl : kj < L.length
                  · have k1' : (kj : Int) < (L.length : Int) := by omega
                    have k2' : ((kj : Int)).toNat = kj := by omega
                    have k3' : (0 : Int) ≤ (kj : Int) := by omega
                    obtain ⟨y, hy⟩ : ∃ y, L[kj]? = some y := ⟨_, List.getElem?_eq_getElem hkl⟩
                    have hin := HK.out.inN y (List.mem_of_getElem? hy)
                    unfold inE at hin
                    obtain ⟨f0, c0⟩ := y
                    simp only at hin
                    obtain ⟨F, rfl⟩ := Int.eq_ofNat_of_zero_le hin.1
                    obtain ⟨C, rfl⟩ := Int.eq_ofNat_of_zero_le (show 0 ≤ c0 by omega)
                    have q4 : F + C ≤ N := by omega
                    have HY := Lib.hid hy
                    clear hin hy
                    go_wp2
                    go_loopg [22] C (fun k v22 wr5 => ∃ jj : Nat, v22 = .int .i64 (jj : Int) ∧ jj ≤ C ∧ ApI w p g N t (covF L kj F jj f) wr5 ∧ RowI wr5 p g (.slice (some al2) L.length c2') L ∧ k = C - jj)
                    case atStart => exact ⟨0, rfl, by omega, I5.congr fun x _ => covF_zero L kj 0 F f x, R5, rfl⟩
                    case round =>
                      clear I5 R5
                      obtain ⟨jj, rfl, hjj, I5, R5, rfl⟩ := hrel
                      obtain ⟨r0, r1⟩ := R5.look kj _ HY.out
                      simp only at r0 r1
                      by_cases hjl : jj < C
                      · have q5 : (jj : Int) < (C : Int) := by omega
                        have w3' : IntKind.i64.wrap ((F : Int) + (jj : Int)) = (F : Int) + (jj : Int) := by rw [IntKind.wrap_i64]; omega
                        have e6 : ((F : Int) + (jj : Int)).toNat = F + jj := by omega
                        have e7 : (0 : Int) ≤ (F : Int) + (jj : Int) := by omega
                        have e8 : (F : Int) + (jj : Int) < (N : Int) := by omega
                        have hb := I5.bit (F + jj) (by omega)
                        have hfz := I5.frozen (F + jj)
                        obtain ⟨I6, O6⟩ := I5.set (F + jj) true
                        rw [← HAG.out] at hb hfz I6 O6
                        have HI6 := Lib.hid (I6.congr fun x _ => covF_step L kj F jj f x)
                        have HR6 := Lib.hid (R5.only O6 (.inr rfl))
                        clear I6 O6 I5 R5
                        go_wp2
                        go_roundg (C - (jj + 1))
                        case measure => omega
                        case rel => exact ⟨jj + 1, by simp, by omega, HI6.out, HR6.out, rfl⟩
                      · have q5 : ¬ (jj : Int) < (C : Int) := by omega
                        have I6 := I5.congr (k := covF L (kj + 1) 0 0 f) fun x _ => by rw [show jj = C from by omega]; exact covF_next HY.out f x
                        clear I5
                        go_wp2
                        go_roundg (L.length - (kj + 1))
                        case measure => omega
                        case rel => exact ⟨kj + 1, by simp, by omega, I6, R5, rfl⟩
                  · have k1' : ¬ (kj : Int) < (L.length : Int) := by omega
                    have I6 := I5.congr (k := fun x => if cov L x = true then true else f x) fun x _ => covF_all L kj (by omega) f x
                    clear I5 R5
                    go_wp2
                    go_roundg (A.length - (i + 1))
                    case measure => omega
                    case rel => exact ⟨i + 1, t, _, by simp, by omega, ⟨HBT.out⟩, I6, rfl⟩
      · have c2 : ¬ (i : Int) < (A.length : Int) := by omega
        have HBY := Lib.hid (bytes_map wr p N s I.m)
        have HOF := Lib.hid (of_ok s N f HBi.out n1 (by omega) wr)
        go_wp2_with (first
          | (go_at_call 38; refine HBY.out.mono ?_; rintro e w' ⟨rfl, rfl⟩)
          | (go_at_call 40; refine HOF.out.mono ?_; rintro e W5 ⟨p2, rfl, M2, hp2, hB2⟩; have I5 := I.keepB hB2; clear I HBY HOF)
          | (go_at_call 38; refine (bytes_map _ p2 N s M2).mono ?_; rintro e w' ⟨rfl, rfl⟩)
          | (go_at_call 38; refine (bytes_map _ p N s I5.m).mono ?_; rintro e w' ⟨rfl, rfl⟩)
          | (go_at_call 27; refine (used_map _ p2 N s M2 (by omega)).mono ?_; rintro e w' ⟨rfl, ⟨d5, rfl⟩⟩; have I6 := I5.keepB (pw_below_drewN (Below.refl _ _) d5))
          | (go_at_call 27; refine (used_map _ p N s I6.m (by omega)).mono ?_; rintro e w' ⟨rfl, ⟨d6, rfl⟩⟩)
          | (go_at_call 30; refine (took_calls _).mono ?_; rintro e w11 ⟨rfl, hB11⟩))
        go_ret
        have hB3 : Below w.heap.size w ((W5.drewN d5).drewN d6) := I6.below.trans ((pw_below_drewN (Below.refl _ _) d6).mono I6.below.size)
        rw [World.drewN_drewN] at hB3
        first
          | exact ⟨rfl, hB3.trans (hB11.mono hB3.size)⟩
          | (rw [World.drewN_drewN] at hB11; exact ⟨rfl, hB3.trans (hB11.mono hB3.size)⟩)
end Go.Proofs.Ytidnkckfkgaooaa.Al
