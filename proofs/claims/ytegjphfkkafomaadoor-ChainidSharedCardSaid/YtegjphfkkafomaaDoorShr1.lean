/- ChainidShared: the walk. -/
import Derived.Test.YtegjphfkkafomaaDoorTel1
import Derived.Test.YtegjphfkkafomaaDoorMrg
namespace Go.Proofs.YtegjphfkkafomaaDoor.Sha
open Go.RowKit Go.Proofs Go.Proofs.YtegjphfkkafomaaDoor.Q Go.Proofs.YtegjphfkkafomaaDoorW.PrintWords Go.Proofs.YtegjphfkkafomaaDoorW.PrintLast Go.Proofs.YtegjphfkkafomaaDoorW.PrintMore

/-- What stands in ChainidShared ahead of the chains: three lists, two put together. -/
structure ShrI (w : World) (vf vx vy : Value) (F X Y : List (List Nat)) (wr : World) : Prop where
  below : Below w.heap.size w wr
  laid : Laid wr
  f : DRow wr vf F
  x : DRow wr vx X
  y : DRow wr vy Y
theorem ShrI.keepB {w w2 w3 : World} {vf vx vy : Value} {F X Y : List (List Nat)} (h : ShrI w vf vx vy F X Y w2) (hB : Below w2.heap.size w2 w3) : ShrI w vf vx vy F X Y w3 :=
  ⟨h.below.trans (hB.mono h.below.size), h.laid.of_below hB h.laid.lt, h.f.keepB hB, h.x.keepB hB, h.y.keepB hB⟩
/-- .. and their chains. -/
structure ShrC (w : World) (vf vx vy vp vq vg : Value) (F X Y P Q G : List (List Nat)) (wr : World) : Prop where
  i : ShrI w vf vx vy F X Y wr
  p : DRow wr vp P
  q : DRow wr vq Q
  g : DRow wr vg G
theorem ShrC.keepB {w w2 w3 : World} {vf vx vy vp vq vg : Value} {F X Y P Q G : List (List Nat)} (h : ShrC w vf vx vy vp vq vg F X Y P Q G w2) (hB : Below w2.heap.size w2 w3) : ShrC w vf vx vy vp vq vg F X Y P Q G w3 :=
  ⟨h.i.keepB hB, h.p.keepB hB, h.q.keepB hB, h.g.keepB hB⟩
theorem CIn.start (w : World) : CIn w (.slice none 0 0) [] w := ⟨Below.refl _ _, World.ownsRow_nil _ _ _ _⟩
theorem CIn.row {w w2 : World} {v : Value} {L : List (List Nat)} (h : CIn w v L w2) (hd : Digs L) : DRow w2 v L := DRow_of_own hd h.own
theorem ShrI.chain {w w2 : World} {vf vx vy : Value} {F X Y : List (List Nat)} (h : ShrI w vf vx vy F X Y w2) {v : Value} {Z : List (List Nat)} (hz : DRow w2 v Z) (hl : Z.length ≤ 1000) :
    Calls Tryd.prog 21 #[v] w2 fun e w' => ∃ o c, e = .returned (.slice o Z.length c) ∧ DRow w' (.slice o Z.length c) (chainN Z Z.length) ∧ Below w2.heap.size w2 w' := by
  refine (chainOf_calls w2 v Z h.laid hz hl).mono ?_
  rintro e w3 ⟨u, rfl, C⟩
  obtain ⟨o, c, rfl⟩ := C.form
  have hr := C.row (chainN_dig hz.1 _ (Nat.le_refl _))
  rw [chainN_length] at hr ⊢
  exact ⟨o, c, rfl, hr, C.below⟩
attribute [local go_sem] min2_int min_two
attribute [local irreducible] digV Go.wpQuiet nextD
set_option maxHeartbeats 4000000 in
set_option maxRecDepth 100000 in
theorem chShared_calls (w : World) (vf va vb : Value) (F A B : List (List Nat)) (hL : Laid w) (hf : DRow w vf F) (ha : DRow w va A) (hb : DRow w vb B) :
    Calls Tryd.prog 8 #[vf, va, vb] w fun e w' => e = .returned (.bool true) ∧ Below w.heap.size w w' := by
  have hlt := hL.lt
  have HL := Lib.hid hL
  obtain ⟨of, cf, rfl⟩ := hf.form
  obtain ⟨oa, ca, rfl⟩ := ha.form
  obtain ⟨ob, cb, rfl⟩ := hb.form
  by_cases h1 : (8 : Int) < (F.length : Int)
  · clear hL
    go_enter Tryd.func8, Tryd.ntmps8
    go_wp2_with (go_at_call 17; refine (chained_calls w HL.out).mono ?_; rintro e w2 ⟨rfl, hB⟩)
    go_ret
    exact ⟨rfl, hB⟩
  · by_cases h2 : (4 : Int) < (A.length : Int)
    · clear hL
      go_enter Tryd.func8, Tryd.ntmps8
      go_wp2_with (go_at_call 17; refine (chained_calls w HL.out).mono ?_; rintro e w2 ⟨rfl, hB⟩)
      go_ret
      exact ⟨rfl, hB⟩
    · by_cases h3 : (4 : Int) < (B.length : Int)
      · clear hL
        go_enter Tryd.func8, Tryd.ntmps8
        go_wp2_with (go_at_call 17; refine (chained_calls w HL.out).mono ?_; rintro e w2 ⟨rfl, hB⟩)
        go_ret
        exact ⟨rfl, hB⟩
      · have hdf : Digs F := hf.1
        have hda : Digs A := ha.1
        have hdb : Digs B := hb.1
        have hF : F.length ≤ 8 := by omega
        have hA : A.length ≤ 4 := by omega
        have hB : B.length ≤ 4 := by omega
        obtain ⟨X, hX⟩ : ∃ X, X = F ++ A := ⟨_, rfl⟩
        obtain ⟨Y, hY⟩ : ∃ Y, Y = F ++ B := ⟨_, rfl⟩
        have hdx : Digs X := by rw [hX]; exact hdf.append hda
        have hdy : Digs Y := by rw [hY]; exact hdf.append hdb
        have hXl : X.length ≤ 12 := by rw [hX, List.length_append]; omega
        have hYl : Y.length ≤ 12 := by rw [hY, List.length_append]; omega
        have hXF : F.length ≤ X.length := by rw [hX, List.length_append]; omega
        have hYF : F.length ≤ Y.length := by rw [hY, List.length_append]; omega
        have hle := shared_le X Y
        have hfr : F.length ≤ sharedN X Y := by rw [hX, hY]; exact shared_front F A B
        have hget := shared_get X Y
        have hend := shared_end X Y
        have hch := fun i (h : i < sharedN X Y) => chAt_shared (xs := X) (ys := Y) h
        have hcf : ∀ i, i < F.length → chAt F i = chAt X i := fun i h => by rw [hX]; exact chAt_front h
        -- x and y
        have HXC : ∀ w2 v, CIn w v ([] ++ F ++ A) w2 → ∃ o c, v = .slice o X.length c ∧ DRow w2 (.slice o X.length c) X ∧ Below w.heap.size w w2 := fun w2 v C => by
          rw [List.nil_append, ← hX] at C
          obtain ⟨o, c, rfl⟩ := C.form
          exact ⟨o, c, rfl, C.row hdx, C.below⟩
        have HYC : ∀ w2 w3 v, CIn w2 v ([] ++ F ++ B) w3 → ∃ o c, v = .slice o Y.length c ∧ DRow w3 (.slice o Y.length c) Y ∧ Below w2.heap.size w2 w3 := fun w2 w3 v C => by
          rw [List.nil_append, ← hY] at C
          obtain ⟨o, c, rfl⟩ := C.form
          exact ⟨o, c, rfl, C.row hdy, C.below⟩
        have HXH := Lib.hid HXC
        have HYH := Lib.hid HYC
        have HF := Lib.hid hf
        have HA := Lib.hid ha
        have HB := Lib.hid hb
        have HGet := Lib.hid hget
        have HEnd := Lib.hid hend
        have HCh := Lib.hid hch
        have HCf := Lib.hid hcf
        clear HXC HYC hf ha hb hX hY hget hend hch hcf hL
        obtain ⟨n, hn⟩ : ∃ n, n = sharedN X Y := ⟨_, rfl⟩
        rw [← hn] at hle hfr
        have HN := Lib.hid hn
        clear hn
        have k1 : decide (n < F.length) = false := decide_eq_false (by omega)
        have k2 : decide (Y.length < n) = false := decide_eq_false (by omega)
        have k3 : decide (X.length < n) = false := decide_eq_false (by omega)
        have hgd := guard_dig
        rcases Nat.lt_or_ge Y.length X.length with hXY | hXY
        · have hc0 : (Y.length : Int) < (X.length : Int) := by omega
          go_enter Tryd.func8, Tryd.ntmps8
          go_wp2_with (first
            | ((with_reducible refine gate_builtin (b := .append) (xs := #[.const (.slice none 0 0), .tmp 28]) rfl ?_); at_builtin; refine wpList_append_D rfl (.const (.slice none 0 0)) (.tmp 28) rfl (.slice none 0 0) (.slice of F.length cf) [] F rfl rfl (CIn.start w) HF.out (by show 0 + F.length ≤ 1000; omega) ?_; intro v1 w1 C1)
            | ((with_reducible refine gate_builtin (b := .append) (xs := #[.tmp 29, .tmp 30]) rfl ?_); at_builtin; refine wpList_append_D rfl (.tmp 29) (.tmp 30) rfl v1 (.slice oa A.length ca) ([] ++ F) A rfl rfl C1 (HA.out.keepB C1.below) (by rw [List.nil_append]; omega) ?_; intro v2 w2 C2; obtain ⟨ox, cx, rfl, R2, B2⟩ := HXH.out _ _ C2; clear C2)
            | ((with_reducible refine gate_builtin (b := .append) (xs := #[.const (.slice none 0 0), .tmp 32]) rfl ?_); at_builtin; refine wpList_append_D rfl (.const (.slice none 0 0)) (.tmp 32) rfl (.slice none 0 0) (.slice of F.length cf) [] F rfl rfl (CIn.start w2) (HF.out.keepB B2) (by show 0 + F.length ≤ 1000; omega) ?_; intro v3 w3 C3)
            | ((with_reducible refine gate_builtin (b := .append) (xs := #[.tmp 33, .tmp 34]) rfl ?_); at_builtin; refine wpList_append_D rfl (.tmp 33) (.tmp 34) rfl v3 (.slice ob B.length cb) ([] ++ F) B rfl rfl C3 ((HB.out.keepB B2).keepB C3.below) (by rw [List.nil_append]; omega) ?_; intro v4 w4 C4; obtain ⟨oy, cy, rfl, R4, B4⟩ := HYH.out _ _ _ C4; clear C3 C4; have S4 : ShrI w (.slice of F.length cf) (.slice ox X.length cx) (.slice oy Y.length cy) F X Y w4 := ⟨B2.trans (B4.mono B2.size), (HL.out.of_below B2 hlt).of_below B4 (HL.out.of_below B2 hlt).lt, (HF.out.keepB B2).keepB B4, R2.keepB B4, R4⟩; clear R2 B2 R4 B4)
            | (go_at_call 22; refine (shared_calls _ _ _ X Y S4.x S4.y (by omega)).mono ?_; rintro e w5 ⟨rfl, n5, rfl⟩; rw [← HN.out]; have S5 := S4.keepB (pw_below_drewN (Below.refl _ _) n5); generalize w4.drewN n5 = w5 at S5 ⊢; clear S4)
            | (go_at_call_of 21 (Value.slice ox X.length cx); refine (S5.chain S5.x (by omega)).mono ?_; rintro e w6 ⟨op, cp, rfl, P6, B6⟩; have S6 := S5.keepB B6; clear S5 B6)
            | (go_at_call_of 21 (Value.slice oy Y.length cy); refine (S6.chain S6.y (by omega)).mono ?_; rintro e w7 ⟨oq, cq, rfl, Q7, B7⟩; have S7 := S6.keepB B7; have P7 := P6.keepB B7; clear S6 P6 B7)
            | (go_at_call_of 21 (Value.slice of F.length cf); refine (S7.chain S7.f (by omega)).mono ?_; rintro e w8 ⟨og, cg, rfl, G8, B8⟩; have C8 : ShrC w (.slice of F.length cf) (.slice ox X.length cx) (.slice oy Y.length cy) (.slice op X.length cp) (.slice oq Y.length cq) (.slice og F.length cg) F X Y (chainN X X.length) (chainN Y Y.length) (chainN F F.length) w8 := ⟨S7.keepB B8, P7.keepB B8, Q7.keepB B8, G8⟩; clear S7 P7 Q7 G8 B8))
          go_loopg [13] n (fun k v13 wr => ∃ i : Nat, v13 = .int .i64 i ∧ i ≤ n ∧ ShrC w (.slice of F.length cf) (.slice ox X.length cx) (.slice oy Y.length cy) (.slice op X.length cp) (.slice oq Y.length cq) (.slice og F.length cg) F X Y (chainN X X.length) (chainN Y Y.length) (chainN F F.length) wr ∧ k = n - i)
          case atStart => exact ⟨0, rfl, by omega, C8, rfl⟩
          case round =>
            clear C8
            obtain ⟨i, rfl, hi, C, rfl⟩ := hrel
            have c3 : ((i : Int)).toNat = i := by omega
            have c4 : (0 : Int) ≤ (i : Int) := by omega
            by_cases hin : i < n
            · have c1 : (i : Int) < (n : Int) := by omega
              have c5 : (i : Int) < (X.length : Int) := by omega
              have c6 : (i : Int) < (Y.length : Int) := by omega
              obtain ⟨d, hd⟩ : ∃ d, d = chAt X i := ⟨_, rfl⟩
              have hdd := chAt_dig hdx i (by omega)
              rw [← hd] at hdd
              obtain ⟨hd1, hd2⟩ := hdd
              have hPi : (chainN X X.length)[i]? = some d := by rw [hd]; exact chainN_get X _ i (by omega)
              have hQi : (chainN Y Y.length)[i]? = some d := by rw [hd, HCh.out i (by rw [← HN.out]; exact hin)]; exact chainN_get Y _ i (by omega)
              obtain ⟨e, he⟩ : ∃ e, X[i]? = some e := ⟨_, List.getElem?_eq_getElem (by omega)⟩
              have he' : Y[i]? = some e := by rw [← HGet.out i (by rw [← HN.out]; exact hin)]; exact he
              obtain ⟨p, rfl, hp, _, _⟩ := C.p.at' i d hPi
              obtain ⟨q, rfl, hq, _, _⟩ := C.q.at' i d hQi
              obtain ⟨x, rfl, hx, he1, he2⟩ := C.i.x.at' i e he
              obtain ⟨y, rfl, hy, _, _⟩ := C.i.y.at' i e he'
              have hnd := neq_same d hd1 hd2
              have hne := neq_same e he1 he2
              by_cases hiF : i < F.length
              · have c7 : (i : Int) < (F.length : Int) := by omega
                have hGi : (chainN F F.length)[i]? = some d := by rw [hd, ← HCf.out i hiF]; exact chainN_get F _ i hiF
                obtain ⟨g, rfl, hg, _, _⟩ := C.g.at' i d hGi
                clear hPi hQi hGi he he' hd
                go_wp2
                refine wp_region_quiet_lit (by kernel_rfl) (by kernel_rfl) ?_
                quiet_step (fail)
                quiet_step (fail)
                quiet_step (fail)
                refine wpQuiet_load_dig (by kernel_rfl) (.tmp 86) rfl (p.add (i * 32)) rfl d hd1 (by rintro _ ⟨k, rfl⟩; exact hp) ?_
                quiet_step (fail)
                quiet_step (fail)
                quiet_step (fail)
                refine wpQuiet_load_dig (by kernel_rfl) (.tmp 90) rfl (q.add (i * 32)) rfl d hd1 (by rintro _ ⟨k, rfl⟩; exact hq) ?_
                quiet_step (fail)
                quiet_step (fail)
                quiet_step (fail)
                quiet_step (fail)
                quiet_step (fail)
                refine wpQuiet_load_dig (by kernel_rfl) (.tmp 96) rfl (x.add (i * 32)) rfl e he1 (by rintro _ ⟨k, rfl⟩; exact hx) ?_
                quiet_step (fail)
                quiet_step (fail)
                quiet_step (fail)
                refine wpQuiet_load_dig (by kernel_rfl) (.tmp 100) rfl (y.add (i * 32)) rfl e he1 (by rintro _ ⟨k, rfl⟩; exact hy) ?_
                quiet_step (fail)
                quiet_step (fail)
                quiet_step (fail)
                quiet_step (fail)
                quiet_step (fail)
                quiet_step (fail)
                quiet_step (fail)
                quiet_step (fail)
                quiet_step (fail)
                quiet_step (fail)
                quiet_step (fail)
                refine wpQuiet_load_dig (by kernel_rfl) (.tmp 112) rfl (g.add (i * 32)) rfl d hd1 (by rintro _ ⟨k, rfl⟩; exact hg) ?_
                quiet_step (fail)
                quiet_step (fail)
                quiet_step (fail)
                refine wpQuiet_load_dig (by kernel_rfl) (.tmp 116) rfl (p.add (i * 32)) rfl d hd1 (by rintro _ ⟨k, rfl⟩; exact hp) ?_
                quiet_step (fail)
                quiet_step (fail)
                quiet_step (fail)
                refine wpQuiet_nil ?_
                intro _ hw'
                obtain ⟨nq, hw''⟩ := hw'
                subst hw''
                have C2 := C.keepB (pw_below_drewN (Below.refl _ _) nq)
                clear C hp hq hx hy hg
                generalize wr.drewN nq = w9 at C2 ⊢
                go_wp2
                go_roundg (n - (i + 1))
                case measure => omega
                case rel => exact ⟨i + 1, by simp, by omega, C2, rfl⟩
              · have c7 : ¬ (i : Int) < (F.length : Int) := by omega
                clear hPi hQi he he' hd
                go_wp2
                refine wp_region_quiet_lit (by kernel_rfl) (by kernel_rfl) ?_
                quiet_step (fail)
                quiet_step (fail)
                quiet_step (fail)
                refine wpQuiet_load_dig (by kernel_rfl) (.tmp 86) rfl (p.add (i * 32)) rfl d hd1 (by rintro _ ⟨k, rfl⟩; exact hp) ?_
                quiet_step (fail)
                quiet_step (fail)
                quiet_step (fail)
                refine wpQuiet_load_dig (by kernel_rfl) (.tmp 90) rfl (q.add (i * 32)) rfl d hd1 (by rintro _ ⟨k, rfl⟩; exact hq) ?_
                quiet_step (fail)
                quiet_step (fail)
                quiet_step (fail)
                quiet_step (fail)
                quiet_step (fail)
                refine wpQuiet_load_dig (by kernel_rfl) (.tmp 96) rfl (x.add (i * 32)) rfl e he1 (by rintro _ ⟨k, rfl⟩; exact hx) ?_
                quiet_step (fail)
                quiet_step (fail)
                quiet_step (fail)
                refine wpQuiet_load_dig (by kernel_rfl) (.tmp 100) rfl (y.add (i * 32)) rfl e he1 (by rintro _ ⟨k, rfl⟩; exact hy) ?_
                quiet_step (fail)
                quiet_step (fail)
                quiet_step (fail)
                quiet_step (fail)
                quiet_step (fail)
                quiet_step (fail)
                quiet_step (fail)
                quiet_step (fail)
                refine wpQuiet_skip (by kernel_rfl) ?_
                refine wpQuiet_skip (by kernel_rfl) ?_
                refine wpQuiet_skip (by kernel_rfl) ?_
                refine wpQuiet_skip (by kernel_rfl) ?_
                refine wpQuiet_skip (by kernel_rfl) ?_
                refine wpQuiet_skip (by kernel_rfl) ?_
                refine wpQuiet_skip (by kernel_rfl) ?_
                refine wpQuiet_skip (by kernel_rfl) ?_
                refine wpQuiet_skip (by kernel_rfl) ?_
                quiet_step (fail)
                quiet_step (fail)
                refine wpQuiet_nil ?_
                intro _ hw'
                obtain ⟨nq, hw''⟩ := hw'
                subst hw''
                have C2 := C.keepB (pw_below_drewN (Below.refl _ _) nq)
                clear C hp hq hx hy
                generalize wr.drewN nq = w9 at C2 ⊢
                go_wp2
                go_roundg (n - (i + 1))
                case measure => omega
                case rel => exact ⟨i + 1, by simp, by omega, C2, rfl⟩
            · have c1 : ¬ (i : Int) < (n : Int) := by omega
              have HDD : ∀ d os, Calls Tryd.prog 17 #[] (Go.Sort.grow (redrawn wr d) os) fun e w' => e = .returned (.bool true) ∧ Below (Go.Sort.grow (redrawn wr d) os).heap.size (Go.Sort.grow (redrawn wr d) os) w' := fun d os => chained_calls _ (C.i.laid.regrown d os)
              have HD := Lib.hid HDD
              clear HDD
              have hXYn : Y.length < X.length := hXY
              by_cases hnM : n = Y.length
              · have c8 : ((n : Int) == (Y.length : Int)) = true := beq_iff_eq.mpr (by omega)
                have c9 : (n : Int) = (Y.length : Int) := by omega
                have c10 : decide (n = Y.length) = true := decide_eq_true hnM
                clear hnM c9
                go_wp2
                refine wp_region_quiet_below (by kernel_rfl) (by kernel_rfl) ?_
                quiet_step (fail)
                quiet_step (fail)
                quiet_step (fail)
                quiet_step (fail)
                quiet_step (fail)
                quiet_step (fail)
                quiet_step (fail)
                quiet_step (fail)
                refine wpQuiet_skip (by kernel_rfl) ?_
                refine wpQuiet_skip (by kernel_rfl) ?_
                refine wpQuiet_skip (by kernel_rfl) ?_
                refine wpQuiet_skip (by kernel_rfl) ?_
                refine wpQuiet_skip (by kernel_rfl) ?_
                refine wpQuiet_skip (by kernel_rfl) ?_
                refine wpQuiet_skip (by kernel_rfl) ?_
                refine wpQuiet_skip (by kernel_rfl) ?_
                refine wpQuiet_skip (by kernel_rfl) ?_
                quiet_step (fail)
                quiet_step (fail)
                quiet_step ((go_at_call 17; exact Calls.regrown_of (HD.out _ _)))
                quiet_step (fail)
                quiet_step (fail)
                refine wpQuiet_nil ?_
                intro w9 hw'
                obtain ⟨pq, hw''⟩ := hw'
                have hB9 := C.i.below.trans ((below_regrown wr pq.d pq.os).mono C.i.below.size)
                rw [← hw''] at hB9
                clear hw''
                go_wp2
                go_ret
                exact ⟨rfl, hB9⟩
              · have c8 : ((n : Int) == (Y.length : Int)) = false := beq_eq_false_iff_ne.mpr (by omega)
                have c9 : ¬ (n : Int) = (Y.length : Int) := by omega
                have c10 : decide (n = Y.length) = false := decide_eq_false hnM
                have c11 : (n : Int) < (X.length : Int) := by omega
                have c12 : (n : Int) < (Y.length : Int) := by omega
                have c13 : ((n : Int)).toNat = n := by omega
                have c14 : (0 : Int) ≤ (n : Int) := by omega
                obtain ⟨l, hl⟩ : ∃ l, X[n]? = some l := ⟨_, List.getElem?_eq_getElem (by omega)⟩
                obtain ⟨m, hm⟩ : ∃ m, Y[n]? = some m := ⟨_, List.getElem?_eq_getElem (by omega)⟩
                have hlm : l ≠ m := HEnd.out l m (by rw [← HN.out]; exact hl) (by rw [← HN.out]; exact hm)
                obtain ⟨x, rfl, hx0, hl1, hl2⟩ := C.i.x.at' n l hl
                obtain ⟨y, rfl, hy0, hm1, hm2⟩ := C.i.y.at' n m hm
                have hnlm := dig_neq_run hl1 hm1 hl2 hm2 hlm
                have hx : ∀ d os, DigAt (Go.Sort.grow (redrawn wr d) os) (x.add (n * 32)) l := fun d os j u hj => by
                  have := hx0 j u hj
                  rw [(below_regrown wr d os).cell (block_lt_of_cell this)]
                  exact this
                have hy : ∀ d os, DigAt (Go.Sort.grow (redrawn wr d) os) (y.add (n * 32)) m := fun d os j u hj => by
                  have := hy0 j u hj
                  rw [(below_regrown wr d os).cell (block_lt_of_cell this)]
                  exact this
                clear hlm hl hm hx0 hy0 hnM
                go_wp2
                refine wp_region_quiet_below (by kernel_rfl) (by kernel_rfl) ?_
                quiet_step (fail)
                quiet_step (fail)
                quiet_step (fail)
                quiet_step (fail)
                quiet_step (fail)
                quiet_step (fail)
                quiet_step (fail)
                quiet_step (fail)
                quiet_step (fail)
                quiet_step (fail)
                quiet_step (fail)
                refine wpQuiet_load_dig (by kernel_rfl) (.tmp 131) rfl (x.add (n * 32)) rfl l hl1 (by rintro _ ⟨k, rfl⟩; exact hx _ _) ?_
                quiet_step (fail)
                quiet_step (fail)
                quiet_step (fail)
                refine wpQuiet_load_dig (by kernel_rfl) (.tmp 135) rfl (y.add (n * 32)) rfl m hm1 (by rintro _ ⟨k, rfl⟩; exact hy _ _) ?_
                quiet_step (fail)
                quiet_step (fail)
                quiet_step (fail)
                quiet_step ((go_at_call 17; exact Calls.regrown_of (HD.out _ _)))
                quiet_step (fail)
                quiet_step (fail)
                refine wpQuiet_nil ?_
                intro w9 hw'
                obtain ⟨pq, hw''⟩ := hw'
                have hB9 := C.i.below.trans ((below_regrown wr pq.d pq.os).mono C.i.below.size)
                rw [← hw''] at hB9
                clear hw''
                go_wp2
                go_ret
                exact ⟨rfl, hB9⟩
        · have hc0 : ¬ (Y.length : Int) < (X.length : Int) := by omega
          go_enter Tryd.func8, Tryd.ntmps8
          go_wp2_with (first
            | ((with_reducible refine gate_builtin (b := .append) (xs := #[.const (.slice none 0 0), .tmp 28]) rfl ?_); at_builtin; refine wpList_append_D rfl (.const (.slice none 0 0)) (.tmp 28) rfl (.slice none 0 0) (.slice of F.length cf) [] F rfl rfl (CIn.start w) HF.out (by show 0 + F.length ≤ 1000; omega) ?_; intro v1 w1 C1)
            | ((with_reducible refine gate_builtin (b := .append) (xs := #[.tmp 29, .tmp 30]) rfl ?_); at_builtin; refine wpList_append_D rfl (.tmp 29) (.tmp 30) rfl v1 (.slice oa A.length ca) ([] ++ F) A rfl rfl C1 (HA.out.keepB C1.below) (by rw [List.nil_append]; omega) ?_; intro v2 w2 C2; obtain ⟨ox, cx, rfl, R2, B2⟩ := HXH.out _ _ C2; clear C2)
            | ((with_reducible refine gate_builtin (b := .append) (xs := #[.const (.slice none 0 0), .tmp 32]) rfl ?_); at_builtin; refine wpList_append_D rfl (.const (.slice none 0 0)) (.tmp 32) rfl (.slice none 0 0) (.slice of F.length cf) [] F rfl rfl (CIn.start w2) (HF.out.keepB B2) (by show 0 + F.length ≤ 1000; omega) ?_; intro v3 w3 C3)
            | ((with_reducible refine gate_builtin (b := .append) (xs := #[.tmp 33, .tmp 34]) rfl ?_); at_builtin; refine wpList_append_D rfl (.tmp 33) (.tmp 34) rfl v3 (.slice ob B.length cb) ([] ++ F) B rfl rfl C3 ((HB.out.keepB B2).keepB C3.below) (by rw [List.nil_append]; omega) ?_; intro v4 w4 C4; obtain ⟨oy, cy, rfl, R4, B4⟩ := HYH.out _ _ _ C4; clear C3 C4; have S4 : ShrI w (.slice of F.length cf) (.slice ox X.length cx) (.slice oy Y.length cy) F X Y w4 := ⟨B2.trans (B4.mono B2.size), (HL.out.of_below B2 hlt).of_below B4 (HL.out.of_below B2 hlt).lt, (HF.out.keepB B2).keepB B4, R2.keepB B4, R4⟩; clear R2 B2 R4 B4)
            | (go_at_call 22; refine (shared_calls _ _ _ X Y S4.x S4.y (by omega)).mono ?_; rintro e w5 ⟨rfl, n5, rfl⟩; rw [← HN.out]; have S5 := S4.keepB (pw_below_drewN (Below.refl _ _) n5); generalize w4.drewN n5 = w5 at S5 ⊢; clear S4)
            | (go_at_call_of 21 (Value.slice ox X.length cx); refine (S5.chain S5.x (by omega)).mono ?_; rintro e w6 ⟨op, cp, rfl, P6, B6⟩; have S6 := S5.keepB B6; clear S5 B6)
            | (go_at_call_of 21 (Value.slice oy Y.length cy); refine (S6.chain S6.y (by omega)).mono ?_; rintro e w7 ⟨oq, cq, rfl, Q7, B7⟩; have S7 := S6.keepB B7; have P7 := P6.keepB B7; clear S6 P6 B7)
            | (go_at_call_of 21 (Value.slice of F.length cf); refine (S7.chain S7.f (by omega)).mono ?_; rintro e w8 ⟨og, cg, rfl, G8, B8⟩; have C8 : ShrC w (.slice of F.length cf) (.slice ox X.length cx) (.slice oy Y.length cy) (.slice op X.length cp) (.slice oq Y.length cq) (.slice og F.length cg) F X Y (chainN X X.length) (chainN Y Y.length) (chainN F F.length) w8 := ⟨S7.keepB B8, P7.keepB B8, Q7.keepB B8, G8⟩; clear S7 P7 Q7 G8 B8))
          go_loopg [13] n (fun k v13 wr => ∃ i : Nat, v13 = .int .i64 i ∧ i ≤ n ∧ ShrC w (.slice of F.length cf) (.slice ox X.length cx) (.slice oy Y.length cy) (.slice op X.length cp) (.slice oq Y.length cq) (.slice og F.length cg) F X Y (chainN X X.length) (chainN Y Y.length) (chainN F F.length) wr ∧ k = n - i)
          case atStart => exact ⟨0, rfl, by omega, C8, rfl⟩
          case round =>
            clear C8
            obtain ⟨i, rfl, hi, C, rfl⟩ := hrel
            have c3 : ((i : Int)).toNat = i := by omega
            have c4 : (0 : Int) ≤ (i : Int) := by omega
            by_cases hin : i < n
            · have c1 : (i : Int) < (n : Int) := by omega
              have c5 : (i : Int) < (X.length : Int) := by omega
              have c6 : (i : Int) < (Y.length : Int) := by omega
              obtain ⟨d, hd⟩ : ∃ d, d = chAt X i := ⟨_, rfl⟩
              have hdd := chAt_dig hdx i (by omega)
              rw [← hd] at hdd
              obtain ⟨hd1, hd2⟩ := hdd
              have hPi : (chainN X X.length)[i]? = some d := by rw [hd]; exact chainN_get X _ i (by omega)
              have hQi : (chainN Y Y.length)[i]? = some d := by rw [hd, HCh.out i (by rw [← HN.out]; exact hin)]; exact chainN_get Y _ i (by omega)
              obtain ⟨e, he⟩ : ∃ e, X[i]? = some e := ⟨_, List.getElem?_eq_getElem (by omega)⟩
              have he' : Y[i]? = some e := by rw [← HGet.out i (by rw [← HN.out]; exact hin)]; exact he
              obtain ⟨p, rfl, hp, _, _⟩ := C.p.at' i d hPi
              obtain ⟨q, rfl, hq, _, _⟩ := C.q.at' i d hQi
              obtain ⟨x, rfl, hx, he1, he2⟩ := C.i.x.at' i e he
              obtain ⟨y, rfl, hy, _, _⟩ := C.i.y.at' i e he'
              have hnd := neq_same d hd1 hd2
              have hne := neq_same e he1 he2
              by_cases hiF : i < F.length
              · have c7 : (i : Int) < (F.length : Int) := by omega
                have hGi : (chainN F F.length)[i]? = some d := by rw [hd, ← HCf.out i hiF]; exact chainN_get F _ i hiF
                obtain ⟨g, rfl, hg, _, _⟩ := C.g.at' i d hGi
                clear hPi hQi hGi he he' hd
                go_wp2
                refine wp_region_quiet_lit (by kernel_rfl) (by kernel_rfl) ?_
                quiet_step (fail)
                quiet_step (fail)
                quiet_step (fail)
                refine wpQuiet_load_dig (by kernel_rfl) (.tmp 86) rfl (p.add (i * 32)) rfl d hd1 (by rintro _ ⟨k, rfl⟩; exact hp) ?_
                quiet_step (fail)
                quiet_step (fail)
                quiet_step (fail)
                refine wpQuiet_load_dig (by kernel_rfl) (.tmp 90) rfl (q.add (i * 32)) rfl d hd1 (by rintro _ ⟨k, rfl⟩; exact hq) ?_
                quiet_step (fail)
                quiet_step (fail)
                quiet_step (fail)
                quiet_step (fail)
                quiet_step (fail)
                refine wpQuiet_load_dig (by kernel_rfl) (.tmp 96) rfl (x.add (i * 32)) rfl e he1 (by rintro _ ⟨k, rfl⟩; exact hx) ?_
                quiet_step (fail)
                quiet_step (fail)
                quiet_step (fail)
                refine wpQuiet_load_dig (by kernel_rfl) (.tmp 100) rfl (y.add (i * 32)) rfl e he1 (by rintro _ ⟨k, rfl⟩; exact hy) ?_
                quiet_step (fail)
                quiet_step (fail)
                quiet_step (fail)
                quiet_step (fail)
                quiet_step (fail)
                quiet_step (fail)
                quiet_step (fail)
                quiet_step (fail)
                quiet_step (fail)
                quiet_step (fail)
                quiet_step (fail)
                refine wpQuiet_load_dig (by kernel_rfl) (.tmp 112) rfl (g.add (i * 32)) rfl d hd1 (by rintro _ ⟨k, rfl⟩; exact hg) ?_
                quiet_step (fail)
                quiet_step (fail)
                quiet_step (fail)
                refine wpQuiet_load_dig (by kernel_rfl) (.tmp 116) rfl (p.add (i * 32)) rfl d hd1 (by rintro _ ⟨k, rfl⟩; exact hp) ?_
                quiet_step (fail)
                quiet_step (fail)
                quiet_step (fail)
                refine wpQuiet_nil ?_
                intro _ hw'
                obtain ⟨nq, hw''⟩ := hw'
                subst hw''
                have C2 := C.keepB (pw_below_drewN (Below.refl _ _) nq)
                clear C hp hq hx hy hg
                generalize wr.drewN nq = w9 at C2 ⊢
                go_wp2
                go_roundg (n - (i + 1))
                case measure => omega
                case rel => exact ⟨i + 1, by simp, by omega, C2, rfl⟩
              · have c7 : ¬ (i : Int) < (F.length : Int) := by omega
                clear hPi hQi he he' hd
                go_wp2
                refine wp_region_quiet_lit (by kernel_rfl) (by kernel_rfl) ?_
                quiet_step (fail)
                quiet_step (fail)
                quiet_step (fail)
                refine wpQuiet_load_dig (by kernel_rfl) (.tmp 86) rfl (p.add (i * 32)) rfl d hd1 (by rintro _ ⟨k, rfl⟩; exact hp) ?_
                quiet_step (fail)
                quiet_step (fail)
                quiet_step (fail)
                refine wpQuiet_load_dig (by kernel_rfl) (.tmp 90) rfl (q.add (i * 32)) rfl d hd1 (by rintro _ ⟨k, rfl⟩; exact hq) ?_
                quiet_step (fail)
                quiet_step (fail)
                quiet_step (fail)
                quiet_step (fail)
                quiet_step (fail)
                refine wpQuiet_load_dig (by kernel_rfl) (.tmp 96) rfl (x.add (i * 32)) rfl e he1 (by rintro _ ⟨k, rfl⟩; exact hx) ?_
                quiet_step (fail)
                quiet_step (fail)
                quiet_step (fail)
                refine wpQuiet_load_dig (by kernel_rfl) (.tmp 100) rfl (y.add (i * 32)) rfl e he1 (by rintro _ ⟨k, rfl⟩; exact hy) ?_
                quiet_step (fail)
                quiet_step (fail)
                quiet_step (fail)
                quiet_step (fail)
                quiet_step (fail)
                quiet_step (fail)
                quiet_step (fail)
                quiet_step (fail)
                refine wpQuiet_skip (by kernel_rfl) ?_
                refine wpQuiet_skip (by kernel_rfl) ?_
                refine wpQuiet_skip (by kernel_rfl) ?_
                refine wpQuiet_skip (by kernel_rfl) ?_
                refine wpQuiet_skip (by kernel_rfl) ?_
                refine wpQuiet_skip (by kernel_rfl) ?_
                refine wpQuiet_skip (by kernel_rfl) ?_
                refine wpQuiet_skip (by kernel_rfl) ?_
                refine wpQuiet_skip (by kernel_rfl) ?_
                quiet_step (fail)
                quiet_step (fail)
                refine wpQuiet_nil ?_
                intro _ hw'
                obtain ⟨nq, hw''⟩ := hw'
                subst hw''
                have C2 := C.keepB (pw_below_drewN (Below.refl _ _) nq)
                clear C hp hq hx hy
                generalize wr.drewN nq = w9 at C2 ⊢
                go_wp2
                go_roundg (n - (i + 1))
                case measure => omega
                case rel => exact ⟨i + 1, by simp, by omega, C2, rfl⟩
            · have c1 : ¬ (i : Int) < (n : Int) := by omega
              have HDD : ∀ d os, Calls Tryd.prog 17 #[] (Go.Sort.grow (redrawn wr d) os) fun e w' => e = .returned (.bool true) ∧ Below (Go.Sort.grow (redrawn wr d) os).heap.size (Go.Sort.grow (redrawn wr d) os) w' := fun d os => chained_calls _ (C.i.laid.regrown d os)
              have HD := Lib.hid HDD
              clear HDD
              have hXYn : ¬ Y.length < X.length := by omega
              by_cases hnM : n = X.length
              · have c8 : ((n : Int) == (X.length : Int)) = true := beq_iff_eq.mpr (by omega)
                have c9 : (n : Int) = (X.length : Int) := by omega
                have c10 : decide (n = X.length) = true := decide_eq_true hnM
                clear hnM c9
                go_wp2
                refine wp_region_quiet_below (by kernel_rfl) (by kernel_rfl) ?_
                quiet_step (fail)
                quiet_step (fail)
                quiet_step (fail)
                quiet_step (fail)
                quiet_step (fail)
                quiet_step (fail)
                quiet_step (fail)
                quiet_step (fail)
                refine wpQuiet_skip (by kernel_rfl) ?_
                refine wpQuiet_skip (by kernel_rfl) ?_
                refine wpQuiet_skip (by kernel_rfl) ?_
                refine wpQuiet_skip (by kernel_rfl) ?_
                refine wpQuiet_skip (by kernel_rfl) ?_
                refine wpQuiet_skip (by kernel_rfl) ?_
                refine wpQuiet_skip (by kernel_rfl) ?_
                refine wpQuiet_skip (by kernel_rfl) ?_
                refine wpQuiet_skip (by kernel_rfl) ?_
                quiet_step (fail)
                quiet_step (fail)
                quiet_step ((go_at_call 17; exact Calls.regrown_of (HD.out _ _)))
                quiet_step (fail)
                quiet_step (fail)
                refine wpQuiet_nil ?_
                intro w9 hw'
                obtain ⟨pq, hw''⟩ := hw'
                have hB9 := C.i.below.trans ((below_regrown wr pq.d pq.os).mono C.i.below.size)
                rw [← hw''] at hB9
                clear hw''
                go_wp2
                go_ret
                exact ⟨rfl, hB9⟩
              · have c8 : ((n : Int) == (X.length : Int)) = false := beq_eq_false_iff_ne.mpr (by omega)
                have c9 : ¬ (n : Int) = (X.length : Int) := by omega
                have c10 : decide (n = X.length) = false := decide_eq_false hnM
                have c11 : (n : Int) < (X.length : Int) := by omega
                have c12 : (n : Int) < (Y.length : Int) := by omega
                have c13 : ((n : Int)).toNat = n := by omega
                have c14 : (0 : Int) ≤ (n : Int) := by omega
                obtain ⟨l, hl⟩ : ∃ l, X[n]? = some l := ⟨_, List.getElem?_eq_getElem (by omega)⟩
                obtain ⟨m, hm⟩ : ∃ m, Y[n]? = some m := ⟨_, List.getElem?_eq_getElem (by omega)⟩
                have hlm : l ≠ m := HEnd.out l m (by rw [← HN.out]; exact hl) (by rw [← HN.out]; exact hm)
                obtain ⟨x, rfl, hx0, hl1, hl2⟩ := C.i.x.at' n l hl
                obtain ⟨y, rfl, hy0, hm1, hm2⟩ := C.i.y.at' n m hm
                have hnlm := dig_neq_run hl1 hm1 hl2 hm2 hlm
                have hx : ∀ d os, DigAt (Go.Sort.grow (redrawn wr d) os) (x.add (n * 32)) l := fun d os j u hj => by
                  have := hx0 j u hj
                  rw [(below_regrown wr d os).cell (block_lt_of_cell this)]
                  exact this
                have hy : ∀ d os, DigAt (Go.Sort.grow (redrawn wr d) os) (y.add (n * 32)) m := fun d os j u hj => by
                  have := hy0 j u hj
                  rw [(below_regrown wr d os).cell (block_lt_of_cell this)]
                  exact this
                clear hlm hl hm hx0 hy0 hnM
                go_wp2
                refine wp_region_quiet_below (by kernel_rfl) (by kernel_rfl) ?_
                quiet_step (fail)
                quiet_step (fail)
                quiet_step (fail)
                quiet_step (fail)
                quiet_step (fail)
                quiet_step (fail)
                quiet_step (fail)
                quiet_step (fail)
                quiet_step (fail)
                quiet_step (fail)
                quiet_step (fail)
                refine wpQuiet_load_dig (by kernel_rfl) (.tmp 131) rfl (x.add (n * 32)) rfl l hl1 (by rintro _ ⟨k, rfl⟩; exact hx _ _) ?_
                quiet_step (fail)
                quiet_step (fail)
                quiet_step (fail)
                refine wpQuiet_load_dig (by kernel_rfl) (.tmp 135) rfl (y.add (n * 32)) rfl m hm1 (by rintro _ ⟨k, rfl⟩; exact hy _ _) ?_
                quiet_step (fail)
                quiet_step (fail)
                quiet_step (fail)
                quiet_step ((go_at_call 17; exact Calls.regrown_of (HD.out _ _)))
                quiet_step (fail)
                quiet_step (fail)
                refine wpQuiet_nil ?_
                intro w9 hw'
                obtain ⟨pq, hw''⟩ := hw'
                have hB9 := C.i.below.trans ((below_regrown wr pq.d pq.os).mono C.i.below.size)
                rw [← hw''] at hB9
                clear hw''
                go_wp2
                go_ret
                exact ⟨rfl, hB9⟩
end Go.Proofs.YtegjphfkkafomaaDoor.Sha
