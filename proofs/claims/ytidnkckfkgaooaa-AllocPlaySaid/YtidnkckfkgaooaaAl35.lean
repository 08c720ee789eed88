/- A map and the document's, played side by side: the law's walk. -/
import Derived.Test.YtidnkckfkgaooaaAl34
import Derived.Deep.RegionHeld3
namespace Go.Proofs.Ytidnkckfkgaooaa.Al
open Go.RowKit Go.Shelf Go.Proofs Go.Proofs.Ytidnkckfkgaooaa.Ext Go.Proofs.Ytidnkckfkgaooaa.Pure Go.Proofs.YtidnkckfkgaooaaW.PrintWords Go.Proofs.YtidnkckfkgaooaaW.PrintLast Go.Proofs.YtidnkckfkgaooaaW.PrintMore

set_option maxHeartbeats 2000000 in
theorem great_calls2 (w : World) (v : Value) (A : List ActV) (most : Int) (h : ActRow w v A) (hA : A.length ≤ 9223372036854775807) : Calls Try.prog 31 #[v, .int .i64 most] w fun e w' => e = .returned (.bool (greatA A most)) ∧ w = w' := by
  obtain ⟨o, c, rfl⟩ := h.form
  have HL := Lib.hid hA
  clear hA
  go_enter Try.func31, Try.ntmps31
  go_wp2
  go_loopg [5] A.length (fun k v5 wr => ∃ i : Nat, v5 = .int .i64 (i : Int) ∧ i ≤ A.length ∧ (∀ j x, j < i → A[j]? = some x → x.raw.length ≤ 20) ∧ wr = w ∧ k = A.length - i)
  case atStart => exact ⟨0, rfl, by omega, fun j x hj => by omega, rfl, rfl⟩
  case round =>
    obtain ⟨i, rfl, hi, hall, rfl, rfl⟩ := hrel
    have HA := Lib.hid hall
    clear hall
    by_cases hil : i < A.length
    · obtain ⟨x, hx⟩ : ∃ x, A[i]? = some x := ⟨_, List.getElem?_eq_getElem hil⟩
      obtain ⟨a, rfl, hact⟩ := h.at' i x hx
      obtain ⟨_, _, h2, h3, _⟩ := hact
      obtain ⟨o2, c2, hxv⟩ := h3.form
      rw [hxv] at h2
      unfold fld at h2
      have c1 : (i : Int) < (A.length : Int) := by omega
      have c3 : ((i : Int)).toNat = i := by omega
      have c4 : (0 : Int) ≤ (i : Int) := by omega
      by_cases hg : 20 < x.raw.length
      · have d1 : (20 : Int) < (x.raw.length : Int) := by omega
        have HE := Lib.hid (show greatA A most = true by
          unfold greatA
          rw [Bool.or_eq_true]
          left
          rw [List.any_eq_true]
          exact ⟨x, List.mem_of_getElem? hx, decide_eq_true hg⟩)
        clear hx hxv h3
        go_wp2
        go_ret
        exact ⟨by rw [HE.out]; rfl, rfl⟩
      · have d1 : ¬ (20 : Int) < (x.raw.length : Int) := by omega
        have HN := Lib.hid (show ∀ j y, j < i + 1 → A[j]? = some y → y.raw.length ≤ 20 from fun j y hj hy => by
          by_cases e : j = i
          · subst e
            rw [hx] at hy
            obtain rfl := Option.some.inj hy
            omega
          · exact HA.out j y (by omega) hy)
        clear hx hxv h3
        have hl := HL.out
        go_wp2
        go_roundg (A.length - (i + 1))
        case measure => omega
        case rel => exact ⟨i + 1, by simp, by omega, HN.out, rfl, rfl⟩
    · have c1 : ¬ (i : Int) < (A.length : Int) := by omega
      have hE : greatA A most = decide (most < (A.length : Int)) := by
        unfold greatA
        rw [show A.any (fun x => decide (20 < x.raw.length)) = false from ?_]
        · rfl
        · rw [List.any_eq_false]
          intro x hx
          obtain ⟨j, hj⟩ := List.getElem?_of_mem hx
          have := HA.out j x (by have := (List.getElem?_eq_some_iff.1 hj).1; omega) hj
          simpa using this
      have HE := Lib.hid hE
      clear hE
      go_wp2
      go_ret
      exact ⟨by rw [HE.out]; rfl, rfl⟩
theorem great_not {A : List ActV} {most : Int} (h : greatA A most = false) : (∀ x ∈ A, x.raw.length ≤ 20) ∧ (A.length : Int) ≤ most := by
  unfold greatA at h
  rw [Bool.or_eq_false_iff, List.any_eq_false, decide_eq_false_iff_not] at h
  exact ⟨fun x hx => by have := h.1 x hx; simpa using this, by omega⟩
theorem PlI.start {w W1 W2 : World} {p q g cap N : Nat} {s0 : ByteArray} (hT : TkI w p N s0 [] W1) (hR : RAt W2 W1.heap.size q g cap N (fun _ => false)) (hB : Below W1.heap.size W1 W2) (hb : Bits s0 N (fun _ => false)) :
    PlI w p q g cap N s0 s0 W2.heap.size 1 [(.slice none 0 0, [])] [(.slice none 0 0, [])] (W2.alloc (.cells #[.slice none 0 0] 39)) := by
  have h1 := hT.below.size
  have h2 := hB.size
  have hB2 : Below W2.heap.size W2 (W2.alloc (.cells #[.slice none 0 0] 39)) := (Below.refl _ _).alloc (Nat.le_refl _) _
  refine ⟨(hT.below.trans (hB.mono h1)).trans (hB2.mono (Nat.le_trans h1 h2)), hT.hp, (hT.m.keepB hB).keepB hB2, ((hR.base' h1).congr fun i hi => (hb.at i hi).symm).keepB hB2, ?_, fun x hx => ?_⟩
  · exact World.ownsRow_lit (base := w.heap.size) (e := 39) (size := 1) W2 #[.slice none 0 0] 1 (Nat.le_trans h1 h2) (by unfold maxLen; omega) rfl
  · obtain rfl := List.mem_singleton.1 hx
    exact ⟨.inl ⟨rfl, rfl⟩, fun a l c e => by cases e⟩
attribute [local irreducible] takeL takeS giveE Bits Go.wpQuiet countN cntF packT
set_option maxRecDepth 100000 in
set_option maxHeartbeats 20000000 in
theorem allocPlay_calls (w : World) (n : Int) (v : Value) (A : List ActV) (hr : ActRow w v A) (hA : A.length ≤ 9223372036854775807) : Calls Try.prog 8 #[.int .i64 n, v] w fun e w' => e = .returned (.bool true) ∧ Below w.heap.size w w' := by
  have HG := Lib.hid (great_calls2 w v A 50 hr hA)
  obtain ⟨o, c, rfl⟩ := hr.form
  cases hg : greatA A 50 with
  | true =>
    rw [hg] at HG
    go_enter Try.func8, Try.ntmps8
    go_wp2_with (first
      | (go_at_call 31; refine HG.out.mono ?_; rintro e w' ⟨rfl, rfl⟩)
      | (go_at_call 30; refine (took_calls _).mono ?_; rintro e w' ⟨rfl, hT⟩))
    go_ret
    exact ⟨rfl, hT⟩
  | false =>
    rw [hg] at HG
    obtain ⟨hraw, hA50⟩ := great_not hg
    have HRW := Lib.hid hraw
    have HAR := Lib.hid hr
    have hA5 : A.length ≤ 50 := by omega
    clear hraw hr hg hA hA50
    go_enter Try.func8, Try.ntmps8
    go_upto_region 3 with (go_at_call 31; refine HG.out.mono ?_; rintro e w' ⟨rfl, rfl⟩)
    clear HG
    go_cut [27] (fun v27 wx => v27 = .bool (decide (300 < n ∧ n ≤ 4096)) ∧ wx = w)
    case first =>
      by_cases h1 : 300 < n
      · by_cases h2 : n ≤ 4096
        · have e : decide (300 < n ∧ n ≤ 4096) = true := decide_eq_true ⟨h1, h2⟩
          have HE := Lib.hid e
          clear e
          go_wp2
          go_meet
          exact ⟨by rw [HE.out], rfl⟩
        · have e : decide (300 < n ∧ n ≤ 4096) = false := decide_eq_false (fun h => h2 h.2)
          have HE := Lib.hid e
          clear e
          go_wp2
          go_meet
          exact ⟨by rw [HE.out], rfl⟩
      · have e : decide (300 < n ∧ n ≤ 4096) = false := decide_eq_false (fun h => h1 h.1)
        have HE := Lib.hid e
        clear e
        go_wp2
        go_meet
        exact ⟨by rw [HE.out], rfl⟩
    case rest =>
      obtain ⟨rfl, rfl⟩ := hcut
      go_upto_if 27 with fail
      go_cut [0] (fun v0 wx => ∃ n' : Int, v0 = .int .i64 n' ∧ wx = wc ∧ ((n' < 1 ∨ 4096 < n') ∨ ∃ N : Nat, n' = (N : Int) ∧ 1 ≤ N ∧ N ≤ 300))
      case first =>
        cases hd : decide (300 < n ∧ n ≤ 4096) with
        | true =>
          have h1 := of_decide_eq_true hd
          have HH := Lib.hid h1
          clear hd
          have hn0 : 0 ≤ n := by omega
          go_wp2
          go_meet
          refine ⟨_, rfl, rfl, ?_⟩
          by_cases hz : n % 300 < 1
          · exact .inl (.inl hz)
          · exact .inr ⟨(n % 300).toNat, by omega, by omega, by omega⟩
        | false =>
          have h1 := of_decide_eq_false hd
          have HH := Lib.hid h1
          clear hd h1
          go_wp2
          go_meet
          refine ⟨_, rfl, rfl, ?_⟩
          have h1 := HH.out
          by_cases hz : n < 1 ∨ 4096 < n
          · exact .inl hz
          · exact .inr ⟨n.toNat, by omega, by omega, by omega⟩
      case rest =>
        obtain ⟨n', rfl, rfl, hn'⟩ := hcut
        rcases hn' with hbad | ⟨N, rfl, N1, N2⟩
        · have HN1 := Lib.hid (new_none n' wc hbad)
          have HN2 := Lib.hid (fun w => refNew_none n' w hbad)
          clear hbad
          go_wp2_with (first
            | (go_at_call 25; refine HN1.out.mono ?_; rintro e W1 ⟨rfl, hB1⟩)
            | (go_at_call 32; refine (HN2.out _).mono ?_; rintro e W2 ⟨rfl, hB2⟩)
            | (go_at_call 30; refine (took_calls _).mono ?_; rintro e w' ⟨rfl, hT⟩))
          go_ret
          have hB3 := hB1.trans (hB2.mono hB1.size)
          exact ⟨rfl, hB3.trans (hT.mono hB3.size)⟩
        · have HN1 := Lib.hid (newI wc N N1 (by omega))
          have HN2 := Lib.hid (fun w => refNew_some N w N1 (by omega))
          have hb0 := bits_zero N
          generalize zeroS ((N + 7) / 8) = s0 at *
          go_wp2_with (first
            | (go_at_call 25; refine HN1.out.mono ?_; rintro e W1 ⟨p, rfl, hT⟩)
            | (go_at_call 32; refine (HN2.out _).mono ?_; rintro e W2 ⟨q, g, cap, rfl, hR, hB2⟩; have P0 := PlI.start hT hR hB2 hb0; clear hT hR hB2))
          have hbs : Bits s0 N (hasB s0) := Bits.of hb0.ok
          clear HN1 HN2 hb0
          have hz0 : Bits s0 N (hasB s0) := hbs
          go_loopg [9, 10] A.length (fun k v9 v10 wr => ∃ (i : Nat) (s : ByteArray) (g cap tb tc : Nat) (T : List (Value × List (Int × Int))), v10 = .int .i64 (i : Int) ∧ v9 = .slice (some ⟨tb, 0, none⟩) T.length tc ∧ i ≤ A.length ∧ 1 ≤ T.length ∧ T.length ≤ i + 1 ∧ Aside0 (Bits s N (hasB s) ∧ ∀ x ∈ T, x.2.length ≤ 8 ∧ ∀ y ∈ x.2, inE N y) ∧ PlI wc p q g cap N s s tb tc T T wr ∧ k = A.length - i)
          case atStart => exact ⟨0, s0, g, cap, _, 1, _, rfl, rfl, by omega, by simp, by simp, ⟨hz0, fun x hx => by obtain rfl := List.mem_singleton.1 hx; exact ⟨by simp, fun y hy => by cases hy⟩⟩, P0, rfl⟩
          case round =>
            clear P0 hz0 hbs
            obtain ⟨i, s, g, cap, tb, tc, T, rfl, rfl, hi, hT1, hT2, HX, P, rfl⟩ := hrel
            have hsz : s.size ≤ 1000 := by rw [HX.out.1.size]; omega
            by_cases hil : i < A.length
            · have c2 : (i : Int) < (A.length : Int) := by omega
              have c3 : ((i : Int)).toNat = i := by omega
              have c4 : (0 : Int) ≤ (i : Int) := by omega
              obtain ⟨x, hx⟩ : ∃ x, A[i]? = some x := ⟨_, List.getElem?_eq_getElem hil⟩
              obtain ⟨al, rfl, hact0⟩ := HAR.out.at' i x hx
              have hact := hact0.keepB P.below
              have hfar0 := far_of_row hact0.2.2.2.1
              have hr20 := HRW.out x (List.mem_of_getElem? hx)
              obtain ⟨x0, x1, x2, hok⟩ := hact
              have HOK := Lib.hid hok
              obtain ⟨ov, cv, hxv⟩ := hok.1.form
              obtain ⟨_, hk0, hk1, hn64, hraw64⟩ := hok
              rw [hxv] at x2 hfar0
              have hrow := HOK.out.1
              rw [hxv] at hrow
              unfold fld at x1 x2
              clear hx hact0
              go_upto_block 2 with fail
              have hBx : Below wr.heap.size wr (wr.alloc (.cells #[.int .u8 x.kind, .int .i64 x.n, .slice ov x.raw.length cv] 55)) := (Below.refl _ _).alloc (Nat.le_refl _) _
              have hxb := alloc_new wr (.cells #[.int .u8 x.kind, .int .i64 x.n, .slice ov x.raw.length cv] 55) wr.heap.size rfl
              have hold := P.old
              have P1 := P.keepB hBx
              have hrow1 := hrow.keepB hBx
              have hfar : FarV (.slice ov x.raw.length cv) [p, q, g, tb] := fun a l c' e hl b hb => by
                have h1 := hfar0 a l c' e hl
                have h2 := P.hp
                have h3 := P.r.hq
                have h4 := P.r.hg.1
                have h5 := P.tb_ge.1
                simp only [List.mem_cons, List.mem_nil_iff, or_false] at hb
                rcases hb with rfl | rfl | rfl | rfl <;> omega
              clear P hrow hBx x0 x1 x2 hfar0 HOK hxv
              generalize wr.alloc (.cells #[.int .u8 x.kind, .int .i64 x.n, .slice ov x.raw.length cv] 55) = W1 at *
              generalize wr.heap.size = xb at *
              have f1 : W1.cell? ⟨xb, 1, none⟩ = some (.int .i64 x.n) := by rw [block_cell hxb]; rfl
              have f2 : W1.cell? ⟨xb, 2, none⟩ = some (.slice ov x.raw.length cv) := by rw [block_cell hxb]; rfl
              obtain ⟨ab, hab⟩ : ∃ ab, ab = (⟨tb, 0, none⟩ : Addr) := ⟨_, rfl⟩
              rw [← hab]
              have HAB := Lib.hid hab
              clear hab
              go_cut [9] (fun v9 wx => ∃ (s' : ByteArray) (g' cap' tb' tc' : Nat) (T' : List (Value × List (Int × Int))), v9 = .slice (some ⟨tb', 0, none⟩) T'.length tc' ∧ 1 ≤ T'.length ∧ T'.length ≤ i + 2 ∧ (Bits s' N (hasB s') ∧ ∀ x ∈ T', x.2.length ≤ 8 ∧ ∀ y ∈ x.2, inE N y) ∧ PlI wc p q g' cap' N s' s' tb' tc' T' T' wx)
              case first =>
                generalize x.kind % 8 = kk at *
                by_cases h4 : kk = 4
                · subst h4
                  obtain ⟨b, hb1, hb2⟩ := and_mask x.n 255 (by decide)
                  have hb3 : Go.bits .and .i64 x.n 255 = (b : Int) := hb1
                  clear hb1
                  obtain ⟨kx, hkx⟩ : ∃ kx, kx = b % T.length := ⟨_, rfl⟩
                  have hklt : kx < T.length := by rw [hkx]; exact Nat.mod_lt _ (by omega)
                  have hkm : (b : Int) % (T.length : Int) = (kx : Int) := by rw [hkx]; simp
                  clear hkx
                  obtain ⟨y, hy⟩ : ∃ y, T[kx]? = some y := ⟨_, List.getElem?_eq_getElem hklt⟩
                  have hyT := List.mem_of_getElem? hy
                  obtain ⟨oy, cy, hyv⟩ := (P1.rows y hyT).1.form
                  obtain ⟨hy8, hyin⟩ := HX.out.2 y hyT
                  have HY := Lib.hid hy
                  have HYV := Lib.hid hyv
                  have hyR : (Value.slice oy y.2.length cy, y.2) ∈ T := by rw [← hyv]; exact hyT
                  have hI64 : ∀ z ∈ y.2, I64 z.1 ∧ I64 z.2 := fun z hz => by
                    have := hyin z hz
                    unfold inE at this
                    unfold I64
                    omega
                  have LK := Lib.hid (show ∀ (W : World) (sm sr : ByteArray) (g cap : Nat), PlI wc p q g cap N sm sr tb tc T T W → W.cell? (ab.add kx) = some (.slice oy y.2.length cy) from fun W sm sr g cap P => by rw [HAB.out, P.look kx y HY.out, HYV.out])
                  have lk := LK.out _ _ _ _ _ P1
                  have k1 : (kx : Int) < (T.length : Int) := by omega
                  have k2 : ((kx : Int)).toNat = kx := by omega
                  have k3 : (0 : Int) ≤ (kx : Int) := by omega
                  have HGB := Lib.hid (give_bits y.2 HX.out.1)
                  have HI := Lib.hid hI64
                  clear hy hyv hyT hyin hI64
                  go_upto_region 26 with fail
                  go_region_held3 (fun w' => w'.cell? (ab.add kx) = some (.slice oy y.2.length cy)) (first | go_keep | exact LK.out _ _ _ _ _ PA | exact LK.out _ _ _ _ _ PB)
                    (first
                      | (go_at_call 28; refine (P1.give N1 (by omega) hsz hyR (by omega) HI.out (by repeat (first | (with_reducible exact Below.refl _ _) | apply below_drew1 | apply pw_below_drewN))).mono ?_; rintro e w5 ⟨rfl, PA, _⟩)
                      | (go_at_call 33; refine (PA.rgive N1 (by omega) HX.out.1 hyR (by omega) HI.out (by repeat (first | (with_reducible exact Below.refl _ _) | apply below_drew1 | apply pw_below_drewN))).mono ?_; rintro e w6 ⟨rfl, ⟨g2, cap2, PB⟩, _⟩))
                  go_wp2
                  go_meet
                  exact ⟨_, g2, cap2, tb, tc, T, by rw [HAB.out], hT1, by omega, ⟨HGB.out, HX.out.2⟩, PB⟩
                · by_cases h5 : kk = 5
                  · subst h5
                    obtain ⟨b, hb1, hb2⟩ := and_mask x.n 255 (by decide)
                    have hb3 : Go.bits .and .i64 x.n 255 = (b : Int) := hb1
                    clear hb1
                    obtain ⟨kx, hkx⟩ : ∃ kx, kx = b % T.length := ⟨_, rfl⟩
                    have hklt : kx < T.length := by rw [hkx]; exact Nat.mod_lt _ (by omega)
                    have hkm : (b : Int) % (T.length : Int) = (kx : Int) := by rw [hkx]; simp
                    clear hkx
                    obtain ⟨y, hy⟩ : ∃ y, T[kx]? = some y := ⟨_, List.getElem?_eq_getElem hklt⟩
                    have hyT := List.mem_of_getElem? hy
                    obtain ⟨oy, cy, hyv⟩ := (P1.rows y hyT).1.form
                    obtain ⟨hy8, hyin⟩ := HX.out.2 y hyT
                    have HY := Lib.hid hy
                    have HYV := Lib.hid hyv
                    have hyR : (Value.slice oy y.2.length cy, y.2) ∈ T := by rw [← hyv]; exact hyT
                    have hI64 : ∀ z ∈ y.2, I64 z.1 ∧ I64 z.2 := fun z hz => by
                      have := hyin z hz
                      unfold inE at this
                      unfold I64
                      omega
                    have LK := Lib.hid (show ∀ (W : World) (sm sr : ByteArray) (g cap : Nat), PlI wc p q g cap N sm sr tb tc T T W → W.cell? (ab.add kx) = some (.slice oy y.2.length cy) from fun W sm sr g cap P => by rw [HAB.out, P.look kx y HY.out, HYV.out])
                    have lk := LK.out _ _ _ _ _ P1
                    have k1 : (kx : Int) < (T.length : Int) := by omega
                    have k2 : ((kx : Int)).toNat = kx := by omega
                    have k3 : (0 : Int) ≤ (kx : Int) := by omega
                    have HGB := Lib.hid (give_bits y.2 HX.out.1)
                    have HI := Lib.hid hI64
                    clear hy hyv hyT hyin hI64
                    go_upto_region 26 with fail
                    go_region_held3 (fun w' => w'.cell? (ab.add kx) = some (.slice oy y.2.length cy)) (first | go_keep | exact LK.out _ _ _ _ _ PA | exact LK.out _ _ _ _ _ PB)
                      (first
                        | (go_at_call 28; refine (P1.give N1 (by omega) hsz hyR (by omega) HI.out (by repeat (first | (with_reducible exact Below.refl _ _) | apply below_drew1 | apply pw_below_drewN))).mono ?_; rintro e w5 ⟨rfl, PA, _⟩)
                        | (go_at_call 33; refine (PA.rgive N1 (by omega) HX.out.1 hyR (by omega) HI.out (by repeat (first | (with_reducible exact Below.refl _ _) | apply below_drew1 | apply pw_below_drewN))).mono ?_; rintro e w6 ⟨rfl, ⟨g2, cap2, PB⟩, _⟩))
                    go_wp2
                    go_meet
                    exact ⟨_, g2, cap2, tb, tc, T, by rw [HAB.out], hT1, by omega, ⟨HGB.out, HX.out.2⟩, PB⟩

                  · by_cases h6 : kk = 6
                    · subst h6
                      have HGB := Lib.hid (give_bits x.raw HX.out.1)
                      have P2 := P1.more hrow1 hfar
                      have hmem : (Value.slice ov x.raw.length cv, x.raw) ∈ T ++ [(Value.slice ov x.raw.length cv, x.raw)] := List.mem_append_right _ (List.mem_singleton.2 rfl)
                      have hxlt : xb < W1.heap.size := lt_of_block hxb
                      have hxp : xb ≠ p := by have := hold p (by simp); omega
                      have hxq : xb ≠ q := by have := hold q (by simp); omega
                      have KA := Lib.hid (show ∀ W W' : World, OnlyAt p W W' → W.heap[xb]? = W1.heap[xb]? → W'.heap[xb]? = W1.heap[xb]? from fun W W' k e => (k.block xb (Array.getElem?_eq_some_iff.1 (e.trans hxb)).1 hxp).trans e)
                      have KB := Lib.hid (show ∀ W W' : World, OnlyAt q W W' → W.heap[xb]? = W1.heap[xb]? → W'.heap[xb]? = W1.heap[xb]? from fun W W' k e => (k.block xb (Array.getElem?_eq_some_iff.1 (e.trans hxb)).1 hxq).trans e)
                      have KC := Lib.hid (show ∀ W : World, W.heap[xb]? = W1.heap[xb]? → W.cell? ⟨xb, 2, none⟩ = some (.slice ov x.raw.length cv) from fun W e => by rw [block_cell (e.trans hxb)]; rfl)
                      go_upto_region 29 with fail
                      go_region_held3 (fun w' => w'.cell? ⟨xb, 2, none⟩ = some (.slice ov x.raw.length cv)) (first | go_keep | exact KC.out _ (KA.out _ _ OA rfl) | exact KC.out _ (KB.out _ _ OB (KA.out _ _ OA rfl)))
                        (first
                          | (go_at_call 28; refine (P2.give N1 (by omega) hsz hmem (by omega) hraw64 (by repeat (first | (with_reducible exact Below.refl _ _) | apply below_drew1 | apply pw_below_drewN))).mono ?_; rintro e w5 ⟨rfl, PA, OA⟩)
                          | (go_at_call 33; refine (PA.rgive N1 (by omega) HX.out.1 hmem (by omega) hraw64 (by repeat (first | (with_reducible exact Below.refl _ _) | apply below_drew1 | apply pw_below_drewN))).mono ?_; rintro e w6 ⟨rfl, ⟨g2, cap2, PB⟩, OB⟩))
                      go_wp2
                      go_meet
                      exact ⟨_, g2, cap2, tb, tc, T, by rw [HAB.out], hT1, by omega, ⟨HGB.out, HX.out.2⟩, PB.less (fun z hz => List.mem_append_left _ hz)⟩
                    · by_cases h7 : kk = 7
                      · subst h7
                        have HCP := Lib.hid (copy_map W1 p N s P1.m N1)
                        clear hrow1 hfar f1 f2
                        go_wp2_with (first
                          | (go_at_call 29; refine HCP.out.mono ?_; rintro e W2 ⟨rfl, M2, hB2⟩; have PA := P1.keepB hB2)
                          | (go_at_call 26; refine (take_calls W2 _ N s 1 M2 (by omega) hsz (by unfold I64; omega)).mono ?_; rintro e W3 ⟨v3, rfl, hr3, _, M3, O3⟩; obtain ⟨o3, c3', rfl⟩ := hr3.form; have PB := P1.later PA (Nat.le_refl _) O3; have hz3 : (takeS s N 1).size ≤ 1000 := (by rw [(take_bits HX.out.1 1).size]; omega))
                          | (go_at_call 28; refine (give_calls (W3.alloc (.cells #[.int .i64 0, .int .i64 1] 43)) _ N _ _ [((0 : Int), 1)] (M3.keepB ((Below.refl _ _).alloc (Nat.le_refl _) _)) N1 (by omega) hz3 (row_one W3 0 1) (by simp) (fun z hz => (by obtain rfl := List.mem_singleton.1 hz; unfold I64; simp))).mono ?_; rintro e W4 ⟨rfl, _, O4⟩; have PC := P1.later (PB.keepB ((Below.refl _ _).alloc (Nat.le_refl _) _)) (Nat.le_refl _) O4))
                        go_meet
                        exact ⟨s, g, cap, tb, tc, T, by rw [HAB.out], hT1, by omega, HX.out, PC⟩
                      · have n4 : (kk == 4) = false := beq_eq_false_iff_ne.mpr h4
                        have n5 : (kk == 5) = false := beq_eq_false_iff_ne.mpr h5
                        have n6 : (kk == 6) = false := beq_eq_false_iff_ne.mpr h6
                        have n7 : (kk == 7) = false := beq_eq_false_iff_ne.mpr h7
                        clear hrow1 hfar f2 h4 h5 h6 h7
                        go_upto_if 74 with fail
                        clear n4 n5 n6 n7
                        go_cut [14] (fun v14 wx => ∃ mm : Int, v14 = .int .i64 mm ∧ I64 mm ∧ wx = W1)
                        case first =>
                          by_cases hp : 0 < x.n
                          · obtain ⟨b, hb1, hb2⟩ := and_mask x.n 31 (by decide)
                            have hb3 : Go.bits .and .i64 x.n 31 = (b : Int) := hb1
                            clear hb1
                            go_wp2
                            go_meet
                            exact ⟨(b : Int), rfl, by unfold I64; omega, rfl⟩
                          · go_wp2
                            go_meet
                            exact ⟨x.n, rfl, hn64, rfl⟩
                        case rest =>
                          obtain ⟨mm, rfl, hmm, hw1⟩ := hcut
                          subst hw1
                          have hL8 := takeL_length s N mm
                          obtain ⟨i1, hi1, hy0, hy1, hy2⟩ := info_parts info39
                          have HI1 := Lib.hid (And.intro hi1 (And.intro hy0 (And.intro hy1 hy2)))
                          have hob : (Value.slice (some ab) T.length tc).ownBlock = some tb := by rw [HAB.out]; rfl
                          have HTB := Lib.hid (take_bits HX.out.1 mm)
                          clear hi1 hy0 hy1 hy2 f1 hxb
                          go_wp2_with (first
                            | (go_at_call 26; (refine (P1.take (by omega) hsz mm hmm).mono ?_; rintro e W5 ⟨oa, ca, rfl, PA⟩))
                            | (go_at_call 34; refine (PA.rtake N1 (by omega) HX.out.1 mm hmm).mono ?_; rintro e W6 ⟨ob, cb, rfl, PB⟩)
                            | (go_at_call 35; refine (extents_same W6 _ _ (takeL s N mm) (PB.rows (.slice oa (takeL s N mm).length ca, takeL s N mm) (by simp)).1 (PB.rows (.slice ob (takeL s N mm).length cb, takeL s N mm) (by simp)).1 (by omega)).mono ?_; rintro e w7 ⟨rfl, ⟨d, rfl⟩⟩; have PC := PB.keepB (pw_below_drewN (Below.refl _ _) d); clear PA PB; generalize W6.drewN d = W8 at *)
                            | (at_builtin; (refine wpList_append_own_at _ rfl (.tmp 98) (.tmp 100) 53 rfl _ 39 i1 (.slice none 0 0) 1 24 Try.underlying53 HI1.out.1 HI1.out.2.1 HI1.out.2.2.1 HI1.out.2.2.2 rfl (by decide) (.slice (some ab) T.length tc) T.length (T.map (·.1)) rfl (by rw [HAB.out]; exact PC.tk.alloc _) ⟨W8.heap.size, 0, none⟩ 1 1 [.slice ob (takeL s N mm).length cb] rfl rfl (cell_one_new _ _ _) (by simp [Value.oneCell']) (by unfold maxLen; omega) (by omega) (by have := PC.below.size; simp; omega) ?_; intro v' w' hown hgr hnil hat; rw [hob] at hgr hat; rw [World.size_alloc] at hat; obtain ⟨tb2, tc2, rfl, PD⟩ := PC.snoc (fun z hz => List.mem_append_left _ (List.mem_append_left _ hz)) (List.mem_append_right _ (List.mem_singleton.2 rfl)) hgr hown hat)))
                          go_meet
                          refine ⟨takeS s N mm, g, cap, tb2, tc2, T ++ [(.slice ob (takeL s N mm).length cb, takeL s N mm)], by rw [List.length_append]; rfl, by simp, by simp; omega, ⟨HTB.out, fun z hz => ?_⟩, PD⟩
                          rcases List.mem_append.1 hz with hz | hz
                          · exact HX.out.2 z hz
                          · obtain rfl := List.mem_singleton.1 hz
                            exact ⟨hL8, takeL_in s N mm⟩
              case rest =>
                clear hrow1 hfar f1 f2 P1
                obtain ⟨s', g', cap', tb', tc', T', rfl, hT1', hT2', hX', P'⟩ := hcut
                have HX' := Lib.hid hX'
                clear hX'
                have hsz' : s'.size ≤ 1000 := by rw [HX'.out.1.size]; omega
                have HU1 := Lib.hid (used_map _ p N s' P'.m (by omega))
                have HU2 := Lib.hid (show cntF (hasB s') N = countN s' from HX'.out.1.count.symm)
                have HP := Lib.hid (packT_ok HX'.out.1.ok)
                go_wp2_with (first
                  | (go_at_call 27; refine HU1.out.mono ?_; rintro e w5 ⟨rfl, ⟨d, rfl⟩⟩; have PA := P'.keepB (pw_below_drewN (Below.refl _ _) d))
                  | (go_at_call 36; refine (refUsed_calls _ _ _ _ _ _ _ PA.r (by omega)).mono ?_; rintro e w6 ⟨rfl, rfl⟩; rw [HU2.out])
                  | (go_at_call 37; refine (size_map _ _ _ _ PA.m).mono ?_; rintro e w7 ⟨rfl, rfl⟩)
                  | (go_at_call 38; refine (bytes_map _ _ _ _ PA.m).mono ?_; rintro e w8 ⟨rfl, rfl⟩)
                  | (go_at_call 39; refine (refBytes_calls _ _ _ _ _ _ _ PA.r (by omega)).mono ?_; rintro e w9 ⟨rfl, hB9⟩; have PB := PA.keepB hB9; rw [HP.out]))
                go_roundg (A.length - (i + 1))
                case measure => omega
                case rel => exact ⟨i + 1, s', g', cap', tb', tc', T', by simp, rfl, by omega, hT1', by omega, ⟨HX'.out⟩, PB, rfl⟩
            · have c2 : ¬ (i : Int) < (A.length : Int) := by omega
              have HCP := Lib.hid (copy_map _ p N s P.m N1)
              have HP := Lib.hid (packT_ok HX.out.1.ok)
              go_wp2_with (first
                | (go_at_call 29; refine HCP.out.mono ?_; rintro e W2 ⟨rfl, M2, hB2⟩; have PA := P.keepB hB2)
                | (go_at_call 38; refine (bytes_map _ _ _ _ M2).mono ?_; rintro e w8 ⟨rfl, rfl⟩)
                | (go_at_call 39; refine (refBytes_calls _ _ _ _ _ _ _ PA.r (by omega)).mono ?_; rintro e w9 ⟨rfl, hB9⟩; have PB := PA.keepB hB9; rw [HP.out])
                | (go_at_call 30; refine (took_calls _).mono ?_; rintro e w11 ⟨rfl, hB11⟩))
              go_ret
              exact ⟨rfl, PB.below.trans (hB11.mono PB.below.size)⟩
end Go.Proofs.Ytidnkckfkgaooaa.Al
