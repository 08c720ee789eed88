/- ChainidTell: the walk. -/
import Derived.Test.YtegjphfkkafomaaDoorMrg
namespace Go.Proofs.YtegjphfkkafomaaDoor.Sha
open Go.RowKit Go.Proofs Go.Proofs.YtegjphfkkafomaaDoor.Q Go.Proofs.YtegjphfkkafomaaDoorW.PrintWords Go.Proofs.YtegjphfkkafomaaDoorW.PrintLast Go.Proofs.YtegjphfkkafomaaDoorW.PrintMore

/-- What stands in ChainidTell: two lists, a list of chain IDs. -/
structure TellI (w : World) (va vb vl : Value) (xs ys ls : List (List Nat)) (wr : World) : Prop where
  below : Below w.heap.size w wr
  laid : Laid wr
  a : DRow wr va xs
  b : DRow wr vb ys
  l : DRow wr vl ls
theorem TellI.keepB {w w2 w3 : World} {va vb vl : Value} {xs ys ls : List (List Nat)} (h : TellI w va vb vl xs ys ls w2) (hB : Below w2.heap.size w2 w3) : TellI w va vb vl xs ys ls w3 :=
  ⟨h.below.trans (hB.mono h.below.size), h.laid.of_below hB h.laid.lt, h.a.keepB hB, h.b.keepB hB, h.l.keepB hB⟩
/-- .. and a digest in a block of its own. -/
structure TellD (w : World) (va vb vl : Value) (xs ys ls : List (List Nat)) (D : Nat) (e : List Nat) (wr : World) : Prop where
  t : TellI w va vb vl xs ys ls wr
  d : wr.heap[D]? = some (.cells (cells8 e).toArray 24 (0, 0))
theorem TellD.keepB {w w2 w3 : World} {va vb vl : Value} {xs ys ls : List (List Nat)} {D : Nat} {e : List Nat} (h : TellD w va vb vl xs ys ls D e w2) (hB : Below w2.heap.size w2 w3) : TellD w va vb vl xs ys ls D e w3 :=
  ⟨h.t.keepB hB, by rw [hB.block _ (lt_of_block h.d)]; exact h.d⟩
theorem TellD.drewN {w w2 : World} {va vb vl : Value} {xs ys ls : List (List Nat)} {D : Nat} {e : List Nat} (h : TellD w va vb vl xs ys ls D e w2) (n : Nat) : TellD w va vb vl xs ys ls D e (w2.drewN n) :=
  h.keepB (pw_below_drewN (Below.refl _ _) n)
theorem TellI.digest {w w2 : World} {va vb vl : Value} {xs ys ls : List (List Nat)} (h : TellI w va vb vl xs ys ls w2) (e : List Nat) (he : e.length = 32) :
    TellD w va vb vl xs ys ls w2.heap.size e ((w2.alloc (.cells zero32 24 (0, 0))).setCells w2.heap.size 0 (cells8 e)) := by
  have hB : Below w2.heap.size w2 ((w2.alloc (.cells zero32 24 (0, 0))).setCells w2.heap.size 0 (cells8 e)) := setCells_below _ _ _ _ _ (Nat.le_refl _) ((Below.refl _ _).alloc (Nat.le_refl _) _)
  exact ⟨h.keepB hB, setCells_whole _ _ _ (alloc_new _ _ _ rfl) (by rw [cells8_length, he]; rfl)⟩
theorem TellI.start {w w2 : World} {va vb v : Value} {xs ys : List (List Nat)} (hL : Laid w) (ha : DRow w va xs) (hb : DRow w vb ys) (C : CIn w v (chainN xs xs.length) w2) : TellI w va vb v xs ys (chainN xs xs.length) w2 :=
  ⟨C.below, hL.of_below C.below hL.lt, ha.keepB C.below, hb.keepB C.below, DRow_of_own (chainN_dig ha.1 _ (Nat.le_refl _)) C.own⟩
attribute [local irreducible] digV Go.wpQuiet nextD
set_option maxHeartbeats 4000000 in
set_option maxRecDepth 100000 in
theorem tell_calls (w : World) (va vb : Value) (xs ys : List (List Nat)) (hL : Laid w) (ha : DRow w va xs) (hb : DRow w vb ys) :
    Calls Tryd.prog 7 #[va, vb] w fun e w' => e = .returned (.bool true) ∧ Below w.heap.size w w' := by
  have hlt := hL.lt
  have HL := Lib.hid hL
  obtain ⟨oa, ca, rfl⟩ := ha.form
  obtain ⟨ob, cb, rfl⟩ := hb.form
  by_cases h1 : (12 : Int) < (xs.length : Int)
  · clear hL
    go_enter Tryd.func7, Tryd.ntmps7
    go_wp2_with (go_at_call 17; refine (chained_calls w HL.out).mono ?_; rintro e w2 ⟨rfl, hB⟩)
    go_ret
    exact ⟨rfl, hB⟩
  · by_cases h2 : (12 : Int) < (ys.length : Int)
    · clear hL
      go_enter Tryd.func7, Tryd.ntmps7
      go_wp2_with (go_at_call 17; refine (chained_calls w HL.out).mono ?_; rintro e w2 ⟨rfl, hB⟩)
      go_ret
      exact ⟨rfl, hB⟩
    · have hx : xs.length ≤ 1000 := by omega
      have hy : ys.length ≤ 1000 := by omega
      have hdx : Digs xs := ha.1
      have hdy : Digs ys := hb.1
      have hcz : (chainN xs xs.length).length ≤ 1000 := by rw [chainN_length]; exact hx
      have HT : ∀ w2 v, CIn w v (chainN xs xs.length) w2 → TellI w (.slice oa xs.length ca) (.slice ob ys.length cb) v xs ys (chainN xs xs.length) w2 := fun w2 v C => TellI.start HL.out ha hb C
      obtain ⟨ch, hch⟩ : ∃ ch, ch = chainN xs xs.length := ⟨_, rfl⟩
      have hcl : ch.length = xs.length := by rw [hch, chainN_length]
      have hself : decide (ch = ch) = true := decide_eq_true rfl
      rw [← hch] at hcz HT
      have H18 : Calls Tryd.prog 18 #[.slice oa xs.length ca] w fun e w' => ∃ o c, e = .returned (.slice o xs.length c) ∧ TellI w (.slice oa xs.length ca) (.slice ob ys.length cb) (.slice o xs.length c) xs ys ch w' := by
        refine (refChainOf_calls w _ xs ha hx).mono ?_
        rintro e w2 ⟨v, rfl, C⟩
        obtain ⟨o, c, rfl⟩ := C.form
        rw [← hch] at C ⊢
        have := HT _ _ C
        rw [hcl] at this ⊢
        exact ⟨o, c, rfl, this⟩
      have H21 : ∀ w2 o c D f, TellD w (.slice oa xs.length ca) (.slice ob ys.length cb) (.slice o xs.length c) xs ys ch D f w2 → Calls Tryd.prog 21 #[.slice oa xs.length ca] w2 fun e w' => ∃ o' c', e = .returned (.slice o' xs.length c') ∧ DRow w' (.slice o' xs.length c') ch ∧ TellD w (.slice oa xs.length ca) (.slice ob ys.length cb) (.slice o xs.length c) xs ys ch D f w' := by
        intro w2 o c D f U
        refine (chainOf_calls w2 _ xs U.t.laid U.t.a hx).mono ?_
        rintro e w3 ⟨v, rfl, C⟩
        obtain ⟨o', c', rfl⟩ := C.form
        have hr := DRow_of_own (chainN_dig hdx _ (Nat.le_refl _)) C.own
        rw [← hch, hcl] at hr ⊢
        exact ⟨o', c', rfl, hr, U.keepB C.below⟩
      have H20 : ∀ w2 o1 c1 o2 c2, DRow w2 (.slice o1 xs.length c1) ch → DRow w2 (.slice o2 xs.length c2) ch → Calls Tryd.prog 20 #[.slice o1 xs.length c1, .slice o2 xs.length c2] w2 fun e w' => e = .returned (.bool true) ∧ ∃ n, w' = w2.drewN n := by
        intro w2 o1 c1 o2 c2 h1 h2
        rw [← hcl] at h1 h2 ⊢
        refine (same_calls w2 _ _ ch ch h1 h2 hcz).mono ?_
        rintro e w3 ⟨rfl, hn⟩
        exact ⟨by rw [hself], hn⟩
      have HH20 := Lib.hid H20
      have HH18 := Lib.hid H18
      have HH21 := Lib.hid H21
      have HCL := Lib.hid hcl
      clear H18 H21 H20 HT
      by_cases h0 : 0 < xs.length
      · obtain ⟨f, hf⟩ : ∃ f, f = chAt xs (xs.length - 1) := ⟨_, rfl⟩
        have hfd := chAt_dig hdx (xs.length - 1) (by omega)
        have hfg : ch[xs.length - 1]? = some f := by rw [hch, hf]; exact chainN_get xs _ _ (by omega)
        rw [← hf] at hfd
        obtain ⟨hf1, hf2⟩ := hfd
        have H19 : ∀ w2 v, TellI w (.slice oa xs.length ca) (.slice ob ys.length cb) v xs ys ch w2 → Calls Tryd.prog 19 #[.slice oa xs.length ca] w2 fun e w' => e = .returned (.tuple #[digV f, .bool true]) ∧ TellI w (.slice oa xs.length ca) (.slice ob ys.length cb) v xs ys ch w' := by
          intro w2 v T
          rw [hf]
          refine (top_some w2 _ xs T.laid T.a h0 hx).mono ?_
          rintro e w3 ⟨rfl, hB⟩
          exact ⟨rfl, T.keepB hB⟩
        have HH19 := Lib.hid H19
        have HFG := Lib.hid hfg
        have d1 : IntKind.i64.wrap ((xs.length : Int) - 1) = (xs.length : Int) - 1 := by rw [IntKind.wrap_i64]; omega
        have d2 : ((xs.length : Int) - 1).toNat = xs.length - 1 := by omega
        have d3 : (0 : Int) ≤ (xs.length : Int) - 1 := by omega
        have d4 : (xs.length : Int) - 1 < (xs.length : Int) := by omega
        have d6 : ¬ (xs.length : Int) = 0 := by omega
        have d7 : ((xs.length : Int) == 0) = false := beq_eq_false_iff_ne.mpr d6
        have d8 : (1 : Int) ≤ (xs.length : Int) := by omega
        have d9 : (0 : Int) < (xs.length : Int) := by omega
        clear H19 hfg hf hch hL ha hb hcl
        have hgd := guard_dig
        go_enter Tryd.func7, Tryd.ntmps7
        go_wp2_with (first
          | (go_at_call 18; refine HH18.out.mono ?_; rintro e w2 ⟨o, c, rfl, T2⟩)
          | (go_at_call 19; refine (HH19.out _ _ T2).mono ?_; rintro e w3 ⟨rfl, T3⟩; clear T2)
          | (apply wpList_store_mid (ty := 24) (x := .tmp 6) (y := .tmp 23) (o := 0) (cells := (cells8 f).toArray); (case ho => exact rfl); (case hgd => exact rfl); (case hx => exact rfl); (case hy => exact digV_agg _); (case ht => exact there_32 (alloc_new _ _ _ rfl) rfl f hf1); (case hi => exact digV_size _ hf1); (case h1 => exact all_oneCell_toArray (cells8_one _)); have U4 := T3.digest f hf1; show wpList _ _ _ _ _ ((w3.alloc (.cells zero32 24 (0, 0))).setCells w3.heap.size 0 (cells8 f)); generalize (w3.alloc (.cells zero32 24 (0, 0))).setCells w3.heap.size 0 (cells8 f) = w4 at U4 ⊢; generalize w3.heap.size = D at U4 ⊢; clear T3)
          | (go_at_call 21; refine (HH21.out _ _ _ _ _ U4).mono ?_; rintro e w5 ⟨o5, c5, rfl, hr5, U5⟩; clear U4)
          | (go_at_call 20; refine (HH20.out _ _ _ _ _ hr5 U5.t.l).mono ?_; rintro e w6 ⟨rfl, n6, rfl⟩; have U6 := U5.drewN n6; clear hr5 U5; generalize w5.drewN n6 = w6 at U6 ⊢)
          | (go_at_call 22; refine (shared_calls _ _ _ xs ys U6.t.a U6.t.b hx).mono ?_; rintro e w7 ⟨rfl, n7, rfl⟩; have U7 := U6.drewN n7; clear U6; generalize w6.drewN n7 = w7 at U7 ⊢)
          | (go_at_call 23; refine (refShared_calls _ _ _ xs ys U7.t.a U7.t.b hx).mono ?_; rintro e w8 ⟨rfl, n8, rfl⟩; have U8 := U7.drewN n8; clear U7; generalize w7.drewN n8 = w8 at U8 ⊢))
        have hat := U8.t.l.at' (xs.length - 1) f HFG.out
        obtain ⟨q, rfl, hq, _, _⟩ := hat
        have hnf := neq_same f hf1 hf2
        refine wp_region_quiet_lit (by kernel_rfl) (by kernel_rfl) ?_
        quiet_step (fail)
        quiet_step (fail)
        refine wpQuiet_load_rowG (by kernel_rfl) 24 (.tmp 6) rfl D rfl 24 (cells8 f).toArray (0, 0) (.array 32 5) (by rintro _ ⟨k, rfl⟩; exact U8.d) und24 rfl (digV_size _ hf1) (v := digV f) (digV_agg _) ?_
        quiet_step (fail)
        quiet_step (fail)
        quiet_step (fail)
        quiet_step (fail)
        quiet_step (fail)
        refine wpQuiet_load_dig (by kernel_rfl) (.tmp 53) rfl (q.add ((xs.length - 1) * 32)) rfl f hf1 (by rintro _ ⟨k, rfl⟩; exact hq) ?_
        quiet_step (fail)
        quiet_step (fail)
        quiet_step (fail)
        quiet_step (fail)
        quiet_step (fail)
        quiet_step (fail)
        refine wpQuiet_skip (by kernel_rfl) ?_
        refine wpQuiet_skip (by kernel_rfl) ?_
        refine wpQuiet_skip (by kernel_rfl) ?_
        quiet_step (fail)
        quiet_step (fail)
        refine wpQuiet_nil ?_
        intro _ hw'
        obtain ⟨nq, hw''⟩ := hw'
        subst hw''
        have T9 := (U8.drewN nq).t
        clear U8 hq hnf
        generalize w8.drewN nq = w9 at T9 ⊢
        clear d1 d2 d3 d4 d6 d7 d8 d9
        go_wp2
        go_loopg [8] xs.length (fun k v8 wr => ∃ i : Nat, v8 = .int .i64 i ∧ i ≤ xs.length ∧ TellI w (.slice oa xs.length ca) (.slice ob ys.length cb) (.slice (some q) xs.length c) xs ys ch wr ∧ k = xs.length - i)
        case atStart => exact ⟨0, rfl, by omega, T9, rfl⟩
        case round =>
          clear T9
          obtain ⟨i, rfl, hi, T, rfl⟩ := hrel
          have c3 : ((i : Int)).toNat = i := by omega
          have c4 : (0 : Int) ≤ (i : Int) := by omega
          have HN := Lib.hid (show Calls Tryd.prog 17 #[] wr fun e w' => e = .returned (.bool true) ∧ Below wr.heap.size wr w' from chained_calls wr T.laid)
          by_cases hil : i < xs.length
          · have c1 : (i : Int) < (xs.length : Int) := by omega
            by_cases hjl : i < ys.length
            · have c2 : (i : Int) < (ys.length : Int) := by omega
              obtain ⟨l, hl⟩ : ∃ l, xs[i]? = some l := ⟨_, List.getElem?_eq_getElem hil⟩
              obtain ⟨m, hm⟩ : ∃ m, ys[i]? = some m := ⟨_, List.getElem?_eq_getElem hjl⟩
              obtain ⟨p, rfl, hp, hl1, hl2⟩ := T.a.at' i l hl
              obtain ⟨r, rfl, hr, hm1, hm2⟩ := T.b.at' i m hm
              obtain ⟨g, hg⟩ : ∃ g, g = nextD l m := ⟨_, rfl⟩
              have hg1 : g.length = 32 := by rw [hg]; exact nextD_length _ _
              have hg2 : ∀ x ∈ g, x < 256 := by rw [hg]; exact nextD_lt _ _
              have H24 : ∀ d os, Calls Tryd.prog 24 #[digV l, digV m] (Go.Sort.grow (redrawn wr d) os) fun e w' => e = .returned (digV g) ∧ Below (Go.Sort.grow (redrawn wr d) os).heap.size (Go.Sort.grow (redrawn wr d) os) w' := fun d os => by
                rw [hg]
                exact next_calls _ l m (T.laid.regrown d os) hl1 hm1 hl2 hm2
              have H25 : ∀ d os, Calls Tryd.prog 25 #[digV l, digV m] (Go.Sort.grow (redrawn wr d) os) fun e w' => e = .returned (digV g) ∧ Below (Go.Sort.grow (redrawn wr d) os).heap.size (Go.Sort.grow (redrawn wr d) os) w' := fun d os => by
                rw [hg]
                exact refNext_calls _ l m hl1 hm1 hl2 hm2
              have HH24 := Lib.hid H24
              have HH25 := Lib.hid H25
              clear H24 H25 hg hl hm
              have hn := neq_same g hg1 hg2
              have hpB : ∀ d os, DigAt (Go.Sort.grow (redrawn wr d) os) (p.add (i * 32)) l := fun d os j u hj => by
                have := hp j u hj
                rw [(below_regrown wr d os).cell (block_lt_of_cell this)]
                exact this
              have hrB : ∀ d os, DigAt (Go.Sort.grow (redrawn wr d) os) (r.add (i * 32)) m := fun d os j u hj => by
                have := hr j u hj
                rw [(below_regrown wr d os).cell (block_lt_of_cell this)]
                exact this
              go_wp2
              refine wp_region_quiet_below (by kernel_rfl) (by kernel_rfl) ?_
              quiet_step (fail)
              quiet_step (fail)
              quiet_step (fail)
              refine wpQuiet_load_dig (by kernel_rfl) (.tmp 80) rfl (p.add (i * 32)) rfl l hl1 (by rintro _ ⟨k, rfl⟩; exact hpB _ _) ?_
              quiet_step (fail)
              quiet_step (fail)
              quiet_step (fail)
              refine wpQuiet_load_dig (by kernel_rfl) (.tmp 84) rfl (r.add (i * 32)) rfl m hm1 (by rintro _ ⟨k, rfl⟩; exact hrB _ _) ?_
              quiet_step ((go_at_call 24; exact Calls.regrown_of (HH24.out _ _)))
              quiet_step (fail)
              quiet_step (fail)
              quiet_step (fail)
              refine wpQuiet_load_dig (by kernel_rfl) (.tmp 89) rfl (p.add (i * 32)) rfl l hl1 (by rintro _ ⟨k, rfl⟩; exact hpB _ _) ?_
              quiet_step (fail)
              quiet_step (fail)
              quiet_step (fail)
              refine wpQuiet_load_dig (by kernel_rfl) (.tmp 93) rfl (r.add (i * 32)) rfl m hm1 (by rintro _ ⟨k, rfl⟩; exact hrB _ _) ?_
              quiet_step ((go_at_call 25; exact Calls.regrown_of (HH25.out _ _)))
              quiet_step (fail)
              refine wpQuiet_nil ?_
              intro w9 hw'
              obtain ⟨pq, hw''⟩ := hw'
              have T2 := T.keepB (below_regrown wr pq.d pq.os)
              rw [← hw''] at T2
              clear hw'' T hpB hrB hp hr
              go_wp2
              go_roundg (xs.length - (i + 1))
              case measure => omega
              case rel => exact ⟨i + 1, by simp, by omega, T2, rfl⟩
            · have c2 : ¬ (i : Int) < (ys.length : Int) := by omega
              go_wp2_with (go_at_call 17; refine HN.out.mono ?_; rintro e w9 ⟨rfl, hB9⟩)
              go_ret
              exact ⟨rfl, T.below.trans (hB9.mono T.below.size)⟩
          · have c1 : ¬ (i : Int) < (xs.length : Int) := by omega
            go_wp2_with (go_at_call 17; refine HN.out.mono ?_; rintro e w9 ⟨rfl, hB9⟩)
            go_ret
            exact ⟨rfl, T.below.trans (hB9.mono T.below.size)⟩
      · have h00 : xs = [] := List.eq_nil_of_length_eq_zero (by omega)
        have H19 : ∀ w2 v, TellI w (.slice oa xs.length ca) (.slice ob ys.length cb) v xs ys ch w2 → Calls Tryd.prog 19 #[.slice oa xs.length ca] w2 fun e w' => e = .returned (.tuple #[digV zeroD, .bool false]) ∧ TellI w (.slice oa xs.length ca) (.slice ob ys.length cb) v xs ys ch w' := by
          intro w2 v T
          have ha' : DRow w2 (.slice oa xs.length ca) [] := by
            have h := T.a
            revert h
            generalize xs.length = n
            rw [h00]
            exact id
          refine (top_nil w2 _ T.laid ha').mono ?_
          rintro e w3 ⟨rfl, hB⟩
          exact ⟨rfl, T.keepB hB⟩
        have HH19 := Lib.hid H19
        have d6 : (xs.length : Int) = 0 := by omega
        have d9 : ¬ (0 : Int) < (xs.length : Int) := by omega
        clear H19 hch hL ha hb hcl d6 h00
        have hgd := guard_zero
        have hnz := neq_zero
        go_enter Tryd.func7, Tryd.ntmps7
        go_wp2_with (first
          | (go_at_call 18; refine HH18.out.mono ?_; rintro e w2 ⟨o, c, rfl, T2⟩)
          | (go_at_call 19; refine (HH19.out _ _ T2).mono ?_; rintro e w3 ⟨rfl, T3⟩; clear T2)
          | (apply wpList_store_mid (ty := 24) (x := .tmp 6) (y := .tmp 23) (o := 0) (cells := (cells8 zeroD).toArray); (case ho => exact rfl); (case hgd => exact rfl); (case hx => exact rfl); (case hy => exact digV_agg _); (case ht => exact there_32 (alloc_new _ _ _ rfl) rfl zeroD rfl); (case hi => exact size24); (case h1 => exact all_oneCell_toArray (cells8_one _)); have U4 := T3.digest zeroD rfl; show wpList _ _ _ _ _ ((w3.alloc (.cells zero32 24 (0, 0))).setCells w3.heap.size 0 (cells8 zeroD)); generalize (w3.alloc (.cells zero32 24 (0, 0))).setCells w3.heap.size 0 (cells8 zeroD) = w4 at U4 ⊢; generalize w3.heap.size = D at U4 ⊢; clear T3)
          | (go_at_call 21; refine (HH21.out _ _ _ _ _ U4).mono ?_; rintro e w5 ⟨o5, c5, rfl, hr5, U5⟩; clear U4)
          | (go_at_call 20; refine (HH20.out _ _ _ _ _ hr5 U5.t.l).mono ?_; rintro e w6 ⟨rfl, n6, rfl⟩; have U6 := U5.drewN n6; clear hr5 U5; generalize w5.drewN n6 = w6 at U6 ⊢)
          | (go_at_call 22; refine (shared_calls _ _ _ xs ys U6.t.a U6.t.b hx).mono ?_; rintro e w7 ⟨rfl, n7, rfl⟩; have U7 := U6.drewN n7; clear U6; generalize w6.drewN n7 = w7 at U7 ⊢)
          | (go_at_call 23; refine (refShared_calls _ _ _ xs ys U7.t.a U7.t.b hx).mono ?_; rintro e w8 ⟨rfl, n8, rfl⟩; have U8 := U7.drewN n8; clear U7; generalize w7.drewN n8 = w8 at U8 ⊢))
        refine wp_region_quiet_lit (by kernel_rfl) (by kernel_rfl) ?_
        quiet_step (fail)
        quiet_step (fail)
        refine wpQuiet_skip (by kernel_rfl) ?_
        refine wpQuiet_skip (by kernel_rfl) ?_
        refine wpQuiet_skip (by kernel_rfl) ?_
        refine wpQuiet_skip (by kernel_rfl) ?_
        refine wpQuiet_skip (by kernel_rfl) ?_
        refine wpQuiet_skip (by kernel_rfl) ?_
        refine wpQuiet_skip (by kernel_rfl) ?_
        refine wpQuiet_skip (by kernel_rfl) ?_
        quiet_step (fail)
        quiet_step (fail)
        quiet_step (fail)
        quiet_step (fail)
        quiet_step (fail)
        refine wpQuiet_load_rowG (by kernel_rfl) 24 (.tmp 6) rfl D rfl 24 (cells8 zeroD).toArray (0, 0) (.array 32 5) (by rintro _ ⟨k, rfl⟩; exact U8.d) und24 rfl size24 (v := digV zeroD) (digV_agg _) ?_
        quiet_step (fail)
        quiet_step (fail)
        quiet_step (fail)
        quiet_step (fail)
        refine wpQuiet_nil ?_
        intro _ hw'
        obtain ⟨nq, hw''⟩ := hw'
        subst hw''
        have T9 := (U8.drewN nq).t
        clear U8
        generalize w8.drewN nq = w9 at T9 ⊢
        go_wp2
        go_loopg [8] xs.length (fun k v8 wr => ∃ i : Nat, v8 = .int .i64 i ∧ i ≤ xs.length ∧ TellI w (.slice oa xs.length ca) (.slice ob ys.length cb) (.slice o xs.length c) xs ys ch wr ∧ k = xs.length - i)
        case atStart => exact ⟨0, rfl, by omega, T9, rfl⟩
        case round =>
          clear T9
          obtain ⟨i, rfl, hi, T, rfl⟩ := hrel
          have c3 : ((i : Int)).toNat = i := by omega
          have c4 : (0 : Int) ≤ (i : Int) := by omega
          have HN := Lib.hid (show Calls Tryd.prog 17 #[] wr fun e w' => e = .returned (.bool true) ∧ Below wr.heap.size wr w' from chained_calls wr T.laid)
          have c1 : ¬ (i : Int) < (xs.length : Int) := by omega
          go_wp2_with (go_at_call 17; refine HN.out.mono ?_; rintro e w9 ⟨rfl, hB9⟩)
          go_ret
          exact ⟨rfl, T.below.trans (hB9.mono T.below.size)⟩
end Go.Proofs.YtegjphfkkafomaaDoor.Sha
