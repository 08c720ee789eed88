/- A disk and the document's, played side by side: the law's walk. -/
import Derived.Test.YteblobookpldfaaSf3
import Derived.Deep.DeepCutAuto
import Derived.Deep.CutBlock
namespace Go.Proofs.Yteblobookpldfaa.Se
open Go.RowKit Go.Shelf Go.Proofs
attribute [local go_sem] Oper.semAt_some
attribute [local irreducible] Go.wpQuiet

theorem great_not {A : List ActV} {most : Int} (h : greatA A most = false) : (∀ x ∈ A, x.ks.length ≤ 60) ∧ (A.length : Int) ≤ most := by
  unfold greatA at h
  rw [Bool.or_eq_false_iff, List.any_eq_false, decide_eq_false_iff_not] at h
  refine ⟨fun x hx => ?_, by omega⟩
  have := h.1 x hx
  unfold great1 at this
  simp at this
  omega
/-- Both new. -/
theorem dr_new {w W1 W2 : World} {n p q : Nat} {sv sv2 : Value} (h1 : DAt W1 (fun x => w.heap.size ≤ x ∧ x < W1.heap.size) p sv (.slice none 0 0) (.slice none 0 0) (dN n)) (hB1 : Below w.heap.size w W1)
    (h2 : RAt W2 (fun x => W1.heap.size ≤ x ∧ x < W2.heap.size) q sv2 (.slice none 0 0) (.slice none 0 0) (rN n)) (hB2 : Below W1.heap.size W1 W2) : ∃ F G, DR w.heap.size F G p q (dN n) (rN n) W2 :=
  ⟨_, _, ⟨⟨_, _, _, h1.keepB hB2⟩, fun x hx => ⟨hx.1, Nat.lt_of_lt_of_le hx.2 hB2.size⟩⟩, ⟨⟨_, _, _, h2⟩, fun x hx => ⟨Nat.le_trans hB1.size hx.1, hx.2⟩⟩, fun x hf hg => by omega⟩
/-- What a round of the play has made ahead of the act: the act's own copy with its own bools. -/
theorem KRow.ofOwn {W : World} {B : Nat} {v : Value} {ks : List Bool} (h : W.ownsRow B 4 1 v ks.length (ks.map Value.bool)) : KRow W v ks := KRow.own h
theorem own_set {W : World} {B n : Nat} {v : Value} {xs : List Value} {g j : Nat} {cs : Array Value} {u : Value} (h : W.ownsRow B 4 1 v n xs) (hg : W.heap[g]? = some (.cells cs 34 (0, 0))) : (W.setCell ⟨g, j, none⟩ u).ownsRow B 4 1 v n xs :=
  ownsRow_block h fun k hk => Below.heap_setCell _ _ _ _ fun e => ownsRow_ne h hg (by decide) (by rw [hk, e])
theorem outside_own {W : World} {B n : Nat} {v : Value} {xs : List Value} {F : Nat → Prop} (h : W.ownsRow B 4 1 v n xs) (hF : ∀ x, F x → x < B) : Outside F v := fun a m c e _ hf => by
  subst e
  have h1 := (h.lt a.block rfl).1
  have h2 := hF _ hf
  omega
/-- The bools of the call's own are turned: neither disk is. -/
theorem DR.flip {B p q : Nat} {F G : Nat → Prop} {d : Dk} {r : Rk} {W W' : World} {v : Value} (h : DR B F G p q d r W) (hO : OnlyF (SB v) W W') (hF : ∀ k, v.ownBlock = some k → ¬ F k) (hG : ∀ k, v.ownBlock = some k → ¬ G k) : DR B F G p q d r W' :=
  ⟨h.1.other hO (fun x hf hs => hF x hs hf), h.2.1.other hO (fun x hg hs => hG x hs hg), h.2.2⟩
set_option maxRecDepth 100000 in
set_option maxHeartbeats 20000000 in
theorem sectorsPlay_calls (w : World) (n : Int) (v : Value) (A : List ActV) (hr : ActRow w v A) (hA : A.length ≤ 9223372036854775807) : Calls Try.prog 3 #[.int .i64 n, v] w fun e w' => e = .returned (.bool true) ∧ Below w.heap.size w w' := by
  have HG := Lib.hid (great_calls w v A 60 hr hA)
  have HS := Lib.hid spun_calls
  obtain ⟨o, c, rfl⟩ := hr.form
  obtain ⟨fs, hfs⟩ := und34s
  cases hg : greatA A 60 with
  | true =>
    rw [hg] at HG
    go_enter Try.func3, Try.ntmps3
    go_wp2_with (first
      | (go_at_call 7; refine HG.out.mono ?_; rintro e w' ⟨rfl, rfl⟩)
      | (go_at_call 8; refine (HS.out _).mono ?_; rintro e w' ⟨rfl, hT⟩))
    go_ret
    exact ⟨rfl, hT⟩
  | false =>
    rw [hg] at HG
    obtain ⟨hraw, hA60⟩ := great_not hg
    have HRW := Lib.hid hraw
    have HAR := Lib.hid hr
    have hA6 : A.length ≤ 60 := by omega
    clear hraw hr hg hA hA60
    go_enter Try.func3, Try.ntmps3
    go_upto_region 3 with (go_at_call 7; refine HG.out.mono ?_; rintro e w' ⟨rfl, rfl⟩)
    clear HG
    go_cut [21] (fun v21 wx => v21 = .bool (decide (40 < n ∧ n ≤ 4096)) ∧ wx = w)
    case first =>
      by_cases h1 : 40 < n
      · by_cases h2 : n ≤ 4096
        · have e : decide (40 < n ∧ n ≤ 4096) = true := decide_eq_true ⟨h1, h2⟩
          have HE := Lib.hid e
          clear e
          go_wp2
          go_meet
          exact ⟨by rw [HE.out], rfl⟩
        · have e : decide (40 < n ∧ n ≤ 4096) = false := decide_eq_false (fun h => h2 h.2)
          have HE := Lib.hid e
          clear e
          go_wp2
          go_meet
          exact ⟨by rw [HE.out], rfl⟩
      · have e : decide (40 < n ∧ n ≤ 4096) = false := decide_eq_false (fun h => h1 h.1)
        have HE := Lib.hid e
        clear e
        go_wp2
        go_meet
        exact ⟨by rw [HE.out], rfl⟩
    case rest =>
      obtain ⟨rfl, rfl⟩ := hcut
      go_upto_if 21 with fail
      go_cut [0] (fun v0 wx => ∃ n' : Int, v0 = .int .i64 n' ∧ wx = wc ∧ ((n' < 8 ∨ 4096 < n') ∨ ∃ N : Nat, n' = (N : Int) ∧ 8 ≤ N ∧ N ≤ 40))
      case first =>
        cases hd : decide (40 < n ∧ n ≤ 4096) with
        | true =>
          have h1 := of_decide_eq_true hd
          have HH := Lib.hid h1
          clear hd
          have hn0 : 0 ≤ n := by omega
          go_wp2
          go_meet
          exact ⟨_, rfl, rfl, .inr ⟨(8 + n % 33).toNat, by omega, by omega, by omega⟩⟩
        | false =>
          have h1 := of_decide_eq_false hd
          have HH := Lib.hid h1
          clear hd h1
          go_wp2
          go_meet
          refine ⟨_, rfl, rfl, ?_⟩
          have h1 := HH.out
          by_cases hz : n < 8 ∨ 4096 < n
          · exact .inl hz
          · exact .inr ⟨n.toNat, by omega, by omega, by omega⟩
      case rest =>
        obtain ⟨n', rfl, rfl, hn'⟩ := hcut
        rcases hn' with hbad | ⟨N, rfl, N1, N2⟩
        · have HN1 := Lib.hid (new_none wc n' hbad)
          have HN2 := Lib.hid (fun w => rNew_none w n' hbad)
          clear hbad
          go_wp2_with (first
            | (go_at_call 9; refine HN1.out.mono ?_; rintro e W1 ⟨rfl, rfl⟩)
            | (go_at_call 10; refine (HN2.out _).mono ?_; rintro e W2 ⟨rfl, rfl⟩)
            | (go_at_call 8; refine (HS.out _).mono ?_; rintro e w' ⟨rfl, hT⟩))
          go_ret
          exact ⟨rfl, hT⟩
        · have HN1 := Lib.hid (new_some wc N N1 (by omega))
          have HN2 := Lib.hid (fun w => rNew_some w N N1 (by omega))
          have HP0 := Lib.hid (pair_new N (by omega) (by omega))
          go_wp2_with (first
            | (go_at_call 9; refine HN1.out.mono ?_; rintro e W1 ⟨p, sv, rfl, hD, hB1⟩)
            | (go_at_call 10; refine (HN2.out _).mono ?_; rintro e W2 ⟨q, sv2, rfl, hR, hB2⟩))
          have HW := Lib.hid (hB1.trans (hB2.mono hB1.size))
          obtain ⟨F0, G0, hDR⟩ := dr_new hD hB1 hR hB2
          have HDR0 := Lib.hid hDR
          clear hD hB1 hR hB2 hDR HN1 HN2
          go_loopg [9, 10, 11, 12] A.length (fun k v9 _ _ _ wr => ∃ (i : Nat) (d : Dk) (r : Rk) (F G : Nat → Prop), v9 = .int .i64 (i : Int) ∧ i ≤ A.length ∧ Hid (DR wc.heap.size F G p q d r wr) ∧ Hid (Pair i d r) ∧ Hid (Below wc.heap.size wc wr) ∧ k = A.length - i)
          case atStart => exact ⟨0, _, _, F0, G0, rfl, by omega, HDR0, HP0, HW, rfl⟩
          case round =>
            clear HDR0 HP0 HW
            obtain ⟨i, d, r, F, G, rfl, hi, HD, HP, HW, rfl⟩ := hrel
            by_cases hil : i < A.length
            · have c2 : (i : Int) < (A.length : Int) := by omega
              have c3 : ((i : Int)).toNat = i := by omega
              have c4 : (0 : Int) ≤ (i : Int) := by omega
              obtain ⟨x, hx⟩ : ∃ x, A[i]? = some x := ⟨_, List.getElem?_eq_getElem hil⟩
              obtain ⟨al, rfl, hact0⟩ := HAR.out.at' i x hx
              have hact := hact0.keepB HW.out
              have hks := HRW.out x (List.mem_of_getElem? hx)
              obtain ⟨x0, x1, x2, x3, x4, hok⟩ := hact
              obtain ⟨ov, cv, hxv⟩ := hok.1.form
              have hkr := hok.1
              have hk256 := hok.2.1
              rw [hxv] at x4 hkr
              unfold fld at x1 x2 x3 x4
              have HKR := Lib.hid hkr
              clear hx hact0 hok hxv hkr
              go_upto_region 13 with fail
              have hBx : Below wr.heap.size wr (wr.alloc (.cells #[.int .u8 (x.kind : Int), .int .u8 (x.c.toNat : Int), .int .i64 x.n, .string x.data, .slice ov x.ks.length cv] 34)) := (Below.refl _ _).alloc (Nat.le_refl _) _
              have hxb := alloc_new wr (.cells #[.int .u8 (x.kind : Int), .int .u8 (x.c.toNat : Int), .int .i64 x.n, .string x.data, .slice ov x.ks.length cv] 34) wr.heap.size rfl
              have HSr := Lib.hid (HKR.out.keepB hBx).src
              have HXB := Lib.hid hxb
              have HBX := Lib.hid hBx
              clear x0 x1 x2 x3 x4 HKR
              generalize wr.alloc (.cells #[.int .u8 (x.kind : Int), .int .u8 (x.c.toNat : Int), .int .i64 x.n, .string x.data, .slice ov x.ks.length cv] 34) = W1 at *
              have f4 : W1.cell? ⟨wr.heap.size, 4, none⟩ = some (.slice ov x.ks.length cv) := by rw [block_cell hxb]; rfl
              clear hxb hBx
              obtain ⟨i0, hi4, hz0, hz1, hz2⟩ := info_parts info4
              go_upto_region 15 with (at_builtin; refine wpList_copy _ rfl (.tmp 63) 32 rfl 4 i0 (.bool false) 1 1 Try.underlying32 hi4 hz0 hz1 hz2 rfl (by decide) (.slice ov x.ks.length cv) x.ks.length (x.ks.map Value.bool) rfl HSr.out (by intro u hu; obtain ⟨b, _, rfl⟩ := List.mem_map.1 hu; rfl) (by unfold maxLen; omega) (by omega) ?_
                                      intro v' w2 hO hB
                                      obtain ⟨ok, ck, rfl⟩ := ownsRow_form hO
                                      have HO := Lib.hid hO
                                      have HB := Lib.hid hB
                                      have hb2 := (hB.block _ (lt_of_block HXB.out)).trans HXB.out
                                      have HB2 := Lib.hid hb2
                                      have g4 : w2.cell? ⟨wr.heap.size, 4, none⟩ = some (.slice ov x.ks.length cv) := by rw [block_cell hb2]; rfl
                                      have gf : w2.frozen? ⟨wr.heap.size, 4, none⟩ = false := block_frozen hb2 4
                                      clear hO hB hb2)
              have hblk : (w2.setCell ⟨wr.heap.size, 4, none⟩ (.slice ok x.ks.length ck)).heap[wr.heap.size]? = some (.cells #[.int .u8 (x.kind : Int), .int .u8 (x.c.toNat : Int), .int .i64 x.n, .string x.data, .slice ok x.ks.length ck] 34 (0, 0)) := block_set HB2.out 4 _
              have hsz1 : wr.heap.size < W1.heap.size := lt_of_block HXB.out
              have hB3 : Below wr.heap.size wr (w2.setCell ⟨wr.heap.size, 4, none⟩ (.slice ok x.ks.length ck)) := (HBX.out.trans (HB.out.mono HBX.out.size)).setCell (p := ⟨wr.heap.size, 4, none⟩) (Nat.le_refl _) _
              have own3 := own_set (j := 4) (u := .slice ok x.ks.length ck) HO.out HB2.out
              have HOWN := Lib.hid own3
              have HB3 := Lib.hid hB3
              have HBLK := Lib.hid hblk
              clear g4 gf f4 own3 hB3 hblk HO HB HB2 HSr HXB HBX
              generalize w2.setCell ⟨wr.heap.size, 4, none⟩ (.slice ok x.ks.length ck) = w3 at *
              have hFl : ∀ y, F y → y < W1.heap.size := fun y hy => Nat.lt_trans (HD.out.1.2 y hy).2 hsz1
              have hGl : ∀ y, G y → y < W1.heap.size := fun y hy => Nat.lt_trans (HD.out.2.1.2 y hy).2 hsz1
              have HDO := Lib.hid (do_calls (x := ⟨x.kind, x.c, x.n, x.data, .slice ok x.ks.length ck, x.ks⟩) (HD.out.keepB HB3.out) HP.out (by omega) (Nat.le_trans HW.out.size HB3.out.size) (KRow.own HOWN.out) (outside_own HOWN.out hFl) (outside_own HOWN.out hGl) hks hk256)
              have HFl := Lib.hid hFl
              have HGl := Lib.hid hGl
              clear hFl hGl
              go_wp2_with (first
                | (refine wpList_load_row rfl 34 (.tmp 10) rfl wr.heap.size rfl 34 #[.int .u8 (x.kind : Int), .int .u8 (x.c.toNat : Int), .int .i64 x.n, .string x.data, .slice ok x.ks.length ck] (0, 0) (.struct fs) HBLK.out hfs rfl size34 ?_)
                | (go_at_call 11; refine HDO.out.mono ?_; rintro e w4 ⟨rfl, d', r', P', hS⟩; have HS4 := Lib.hid hS; have HP4 := Lib.hid P'; clear hS P' HDO))
              obtain ⟨F', G', hDR', hO', hF', hG'⟩ := HS4.out
              have own4 : w4.ownsRow W1.heap.size 4 1 (.slice ok x.ks.length ck) x.ks.length (x.ks.map Value.bool) := ownsRow_block HOWN.out fun k hk => hO'.block k (HOWN.out.lt k hk).2 fun h => h.elim (fun h => by have := HFl.out k h; have := (HOWN.out.lt k hk).1; omega) (fun h => by have := HGl.out k h; have := (HOWN.out.lt k hk).1; omega)
              have nF : ∀ k, (Value.slice ok x.ks.length ck).ownBlock = some k → ¬ F' k := fun k hk hf => (hF' k hf).elim (fun h => by have := HFl.out k h; have := (HOWN.out.lt k hk).1; omega) (fun h => by have := (HOWN.out.lt k hk).2; omega)
              have nG : ∀ k, (Value.slice ok x.ks.length ck).ownBlock = some k → ¬ G' k := fun k hk hf => (hG' k hf).elim (fun h => by have := HGl.out k h; have := (HOWN.out.lt k hk).1; omega) (fun h => by have := (HOWN.out.lt k hk).2; omega)
              have hW4 : Below wc.heap.size wc w4 := hO'.below (HW.out.trans (HB3.out.mono HW.out.size)) (fun y hy => hy.elim (fun h => (HD.out.1.2 y h).1) (fun h => (HD.out.2.1.2 y h).1)) (Nat.le_refl _)
              have hv4 : ∀ k, SB (.slice ok x.ks.length ck) k → wc.heap.size ≤ k := fun k hk => by
                have h1 := (HOWN.out.lt k hk).1
                have h2 := HW.out.size
                omega
              have HW4 := Lib.hid hW4
              have HV4 := Lib.hid hv4
              have HDR4 := Lib.hid hDR'
              have NF := Lib.hid nF
              have NG := Lib.hid nG
              have HOW4 := Lib.hid own4
              clear hDR' hO' hF' hG' own4 nF nG hW4 hv4 HS4 HFl HGl HOWN HBLK HB3
              go_loopg [12] x.ks.length (fun k v12 wr2 => ∃ (j : Nat) (ks' : List Bool), v12 = .int .i64 (j : Int) ∧ j ≤ x.ks.length ∧ ks'.length = x.ks.length ∧ Hid (wr2.ownsRow W1.heap.size 4 1 (.slice ok x.ks.length ck) x.ks.length (ks'.map Value.bool)) ∧ Hid (OnlyF (SB (.slice ok x.ks.length ck)) w4 wr2) ∧ k = x.ks.length - j)
              case atStart => exact ⟨0, x.ks, rfl, by omega, rfl, HOW4, Lib.hid (OnlyF.refl _ _), rfl⟩
              case round =>
                obtain ⟨j, ks', rfl, hj, hkl, HO5, HOF, rfl⟩ := hrel
                by_cases hjl : j < x.ks.length
                · have e2 : (j : Int) < (x.ks.length : Int) := by omega
                  have e3 : ((j : Int)).toNat = j := by omega
                  have e4 : (0 : Int) ≤ (j : Int) := by omega
                  obtain ⟨gk, rfl⟩ := ownsRow_at HO5.out (by omega)
                  obtain ⟨b, hb⟩ : ∃ b, ks'[j]? = some b := ⟨_, List.getElem?_eq_getElem (by omega)⟩
                  have cb : wr.cell? ((⟨gk, 0, none⟩ : Addr).add j) = some (.bool b) := by
                    rw [add_zero, HO5.out.cellAt j (by omega), List.getElem?_map, hb]
                    rfl
                  have cf : wr.frozen? ((⟨gk, 0, none⟩ : Addr).add j) = false := by
                    rw [add_zero]
                    exact HO5.out.frozenAt j
                  have HO6 := Lib.hid (HO5.out.stored j (.bool (!b))).1
                  have HOF6 := Lib.hid (HOF.out.set (p := gk) rfl j (.bool (!b)))
                  rw [← add_zero gk j] at HO6 HOF6
                  obtain ⟨ag, hag⟩ : ∃ ag, ag = (⟨gk, 0, none⟩ : Addr) := ⟨_, rfl⟩
                  rw [← hag] at cb cf
                  have HAG := Lib.hid hag
                  rw [← hag]
                  clear hag hb
                  go_wp2
                  rw [HAG.out]
                  go_roundg (x.ks.length - (j + 1))
                  case measure => omega
                  case rel => exact ⟨j + 1, ks'.set j (!b), by simp, by omega, by simp [hkl], Lib.hid (by have := HO6.out; rw [List.map_set]; exact this), HOF6, rfl⟩
                · have e2 : ¬ (j : Int) < (x.ks.length : Int) := by omega
                  have hD5 := HDR4.out.flip HOF.out NF.out NG.out
                  have HSM := Lib.hid (same_calls hD5 HP4.out (by omega))
                  have HD5 := Lib.hid hD5
                  have HW5 := Lib.hid (HOF.out.below HW4.out HV4.out (Nat.le_refl _))
                  clear hD5
                  go_wp2_with (go_at_call 12; refine HSM.out.mono ?_; rintro e w6 ⟨rfl, hB6⟩)
                  go_roundg (A.length - (i + 1))
                  case measure => omega
                  case rel => exact ⟨i + 1, d', r', F', G', by simp, by omega, Lib.hid (HD5.out.keepB hB6), HP4, Lib.hid (HW5.out.trans (hB6.mono HW5.out.size)), rfl⟩
            · have c2 : ¬ (i : Int) < (A.length : Int) := by omega
              go_wp2_with (go_at_call 8; refine (HS.out _).mono ?_; rintro e w' ⟨rfl, hT⟩)
              go_ret
              exact ⟨rfl, HW.out.trans (hT.mono HW.out.size)⟩
end Go.Proofs.Yteblobookpldfaa.Se
