/- ShaApart: the walk. -/
import Derived.Test.YtegjphfkkafomaaDoorSha19
namespace Go.Proofs.YtegjphfkkafomaaDoor.Sha
open Go.RowKit Go.Proofs Go.Proofs.YtegjphfkkafomaaDoor.Q Go.Proofs.YtegjphfkkafomaaDoorW.PrintWords Go.Proofs.YtegjphfkkafomaaDoorW.PrintLast Go.Proofs.YtegjphfkkafomaaDoorW.PrintMore

theorem bytesRow_at (s : ByteArray) (c j : Nat) (h : j < s.size) : (bytesRow s c)[j]? = some (.int .u8 ((s.data[j]'h).toNat : Int)) := by
  have h1 : j < (s.data.map (fun b => Value.int .u8 b.toNat)).size := by rw [Array.size_map]; exact h
  unfold bytesRow
  rw [Array.getElem?_append_left h1, Array.getElem?_map, Array.getElem?_eq_getElem h]
  rfl
/-- The text with one byte turned. -/
def turned (s : ByteArray) (k : Nat) (x : UInt8) : ByteArray := ⟨(s.data.toList.set k x).toArray⟩
theorem turned_size (s : ByteArray) (k : Nat) (x : UInt8) : (turned s k x).size = s.size := by
  show (s.data.toList.set k x).toArray.size = s.data.size
  simp
theorem turned_back (s : ByteArray) (k c cap : Nat) (x : UInt8) (B : Nat) (t : TypeId) (fr : Nat × Nat) (w : World) (h : w.heap[B]? = some (.cells ((bytesRow s c).setIfInBounds k (.int .u8 (x.toNat : Int))) t fr)) :
    (convert 37 9 (.slice (some ⟨B, 0, none⟩) s.size cap)).run Tryd.prog w = .ok (.string (turned s k x)) w := by
  have hl : (s.data.toList.set k x).length = s.size := by simp
  have := run_convert_bytes_back (P := Tryd.prog) w 37 9 5 ⟨B, 0, none⟩ cap (s.data.toList.set k x) Tryd.underlying37 Tryd.underlying5 Tryd.underlying9 (fun j hj => by
    have hj1 : j < s.size := by omega
    rw [add_zero, block_cell h]
    by_cases e : k = j
    · subst e
      have hb : k < (bytesRow s c).size := by
        obtain ⟨h1, _⟩ := Array.getElem?_eq_some_iff.1 (bytesRow_at s c k hj1)
        exact h1
      rw [Array.getElem?_setIfInBounds_self_of_lt hb]
      simp
    · rw [Array.getElem?_setIfInBounds_ne e, bytesRow_at s c j hj1]
      simp [e])
  rw [hl] at this
  exact this
/-- Two hashers, and bytes. -/
structure KI (w : World) (p : Nat) (u : Value) (l : List Nat) (z : Int) (q : Nat) (v : Value) (m : List Nat) (y : Int) (B : Nat) (cs : Array Value) (fr : Nat × Nat) (w' : World) : Prop where
  j : JI w p u l z q v m y w'
  b : w'.heap[B]? = some (.cells cs 5 fr)
theorem KI.keepB {w w' w'' : World} {p q B : Nat} {u v : Value} {l m : List Nat} {z y : Int} {cs : Array Value} {fr : Nat × Nat} (K : KI w p u l z q v m y B cs fr w') (hB : Below w'.heap.size w' w'') : KI w p u l z q v m y B cs fr w'' :=
  ⟨K.j.keepB hB, by rw [hB.block _ (lt_of_block K.b)]; exact K.b⟩
theorem u8_range (a b : Int) (h1 : 0 ≤ a) (h2 : a < 256) (h3 : 0 ≤ b) (h4 : b < 256) : ∃ x : UInt8, Go.bits .xor .u8 a b = (x.toNat : Int) := by
  rw [u8_xor a b h1 h2 h3 h4]
  have hx : a.toNat ^^^ b.toNat < 2 ^ 8 := Nat.xor_lt_two_pow (by omega) (by omega)
  exact ⟨UInt8.ofNat (a.toNat ^^^ b.toNat), by rw [UInt8.toNat_ofNat_of_lt' (by omega)]⟩
/-- The copy takes more, behind bytes of the call's own. -/
theorem apart_write {w w5 w6 : World} {p q : Nat} {u v : Value} {l m : List Nat} {z : Int} {y : Nat} {cs : Array Value} {fr : Nat × Nat} (J : JI w p u l z q v m y w5) (s : ByteArray) (hlt : 1 < w.heap.size) (hs : s.size ≤ 1000000000) (hy : y ≤ 1000000000000)
    (hB : Below w5.heap.size w5 w6) (hb : w6.heap[w5.heap.size]? = some (.cells cs 5 fr)) :
    Calls Tryd.prog 14 #[.pointer (some ⟨q, 0, none⟩), .string s] w6 fun e w' => e = .returned (.int .i64 s.size) ∧ ∃ v', KI w p u l z q v' (m ++ byN s) ((y + s.size : Nat) : Int) w5.heap.size cs fr w' := by
  have J6 := J.keepB hB
  refine (write_calls w6 q v m y s J6.laid J6.c hs hy).mono ?_
  rintro e w7 ⟨rfl, v7, H7, hf7, ho7⟩
  refine ⟨rfl, v7, (J6.swap.write hlt H7 hf7 ho7).swap, ?_⟩
  have hq := J.c.lt
  rw [ho7.block w5.heap.size (lt_of_block hb) (by omega) (fun e => by have := (J.c.own.lt _ e).2; omega)]
  exact hb
theorem digV_agg (l : List Nat) : digV l = .agg (cells8 l).toArray := rfl
theorem wpQuiet_skip {P : Program} {ops : Array Oper} {C : World → Prop} {Q : Act → Prop} {a : Act} {o : Oper} {rest : List Oper} (hgd : Region.wanted o (yielded ops a.tmps) = false) (h : wpQuiet P ops C Q rest (a.put o.dst undef)) : wpQuiet P ops C Q (o :: rest) a := by
  unfold wpQuiet
  rw [if_neg (by rw [hgd]; decide)]
  exact h
theorem row_frozen (w : World) (cs : Array Value) (k : Nat) (hk : k < cs.size) : (w.alloc (.cells cs 5 (cs.size, cs.size + 1))).frozen? ⟨w.heap.size, k, none⟩ = false := by
  simp only [World.frozen?, alloc_new w _ _ rfl]
  simp
  omega
attribute [local irreducible] sumN digV byN turned Go.wpQuiet
set_option maxHeartbeats 4000000 in
set_option maxRecDepth 100000 in
theorem shaApart_calls (w : World) (s : ByteArray) (a1 a2 : Int) (y1 : (Lit.int .u16 a1).wf = true) (y2 : (Lit.int .u8 a2).wf = true) (hL : Laid w) :
    Calls Tryd.prog 6 #[.string s, .int .u16 a1, .int .u8 a2] w fun e w' => e = .returned (.bool true) ∧ Below w.heap.size w w' := by
  have hlt := hL.lt
  have b1 : 0 ≤ a1 ∧ a1 ≤ 65535 := by simpa [Lit.wf, IntKind.min, IntKind.max, IntKind.signed, IntKind.bits] using y1
  have b2 : 0 ≤ a2 ∧ a2 ≤ 255 := by simpa [Lit.wf, IntKind.min, IntKind.max, IntKind.signed, IntKind.bits] using y2
  clear y1 y2
  obtain ⟨b10, b11⟩ := b1
  obtain ⟨b20, b21⟩ := b2
  have HL := Lib.hid hL
  clear hL
  have out : ∀ (g : ¬ (0 < s.size ∧ s.size ≤ 500 ∧ a2 ≠ 0)), Calls Tryd.prog 6 #[.string s, .int .u16 a1, .int .u8 a2] w fun e w' => e = .returned (.bool true) ∧ Below w.heap.size w w' := by
    intro g
    by_cases g0 : s.size = 0
    · go_enter Tryd.func6, Tryd.ntmps6
      go_wp2_with (go_at_call 9; refine (hashed_calls w HL.out).mono ?_; rintro e w2 ⟨rfl, hB⟩)
      go_ret
      exact ⟨rfl, hB⟩
    · by_cases g1 : (500 : Int) < (s.size : Int)
      · go_enter Tryd.func6, Tryd.ntmps6
        go_wp2_with (go_at_call 9; refine (hashed_calls w HL.out).mono ?_; rintro e w2 ⟨rfl, hB⟩)
        go_ret
        exact ⟨rfl, hB⟩
      · have g2 : a2 = 0 := by omega
        subst g2
        go_enter Tryd.func6, Tryd.ntmps6
        go_wp2_with (go_at_call 9; refine (hashed_calls w HL.out).mono ?_; rintro e w2 ⟨rfl, hB⟩)
        go_ret
        exact ⟨rfl, hB⟩
  by_cases g : 0 < s.size ∧ s.size ≤ 500 ∧ a2 ≠ 0
  case neg => exact out g
  clear out
  obtain ⟨g0, g1, g2⟩ := g
  have e1 : IntKind.i64.wrap a1 = a1 := by rw [IntKind.wrap_i64]; omega
  obtain ⟨k, hk⟩ : ∃ k : Nat, Int.tmod a1 (s.size : Int) = (k : Int) ∧ k < s.size := by
    rw [Int.tmod_eq_emod_of_nonneg b10]
    exact ⟨(a1 % (s.size : Int)).toNat, by have := Int.emod_nonneg a1 (b := (s.size : Int)) (by omega); omega, by have := Int.emod_lt_of_pos a1 (b := (s.size : Int)) (by omega); have := Int.emod_nonneg a1 (b := (s.size : Int)) (by omega); omega⟩
  obtain ⟨hk, hkn⟩ := hk
  have e2 : IntKind.i64.wrap (k : Int) = (k : Int) := by rw [IntKind.wrap_i64]; omega
  have e3 : IntKind.i64.wrap ((k : Int) + 1) = (k : Int) + 1 := by rw [IntKind.wrap_i64]; omega
  have e4 : ((k : Int)).toNat = k := by omega
  have e5 : IntKind.i64.wrap ((s.size : Int) - 1) = (s.size : Int) - 1 := by rw [IntKind.wrap_i64]; omega
  have e6 : ¬ (s.size : Int) = 0 := by omega
  have e7 : ¬ (500 : Int) < (s.size : Int) := by omega
  have e8 : (k : Int) < (s.size : Int) := by omega
  have e9 : ¬ s.size = 0 := by omega
  have e10 : ((s.size : Int) == 0) = false := beq_eq_false_iff_ne.mpr e6
  have e11 : (a2 == 0) = false := beq_eq_false_iff_ne.mpr g2
  have hs1 : s.size ≤ 1000000000 := by omega
  obtain ⟨sa, hsa⟩ : ∃ sa, sa = s.extract 0 k := ⟨_, rfl⟩
  obtain ⟨sb, hsb⟩ : ∃ sb, sb = s.extract k s.size := ⟨_, rfl⟩
  obtain ⟨sc, hsc⟩ : ∃ sc, sc = s.extract (k + 1) s.size := ⟨_, rfl⟩
  have za : sa.size = k := by rw [hsa, ByteArray.size_extract]; omega
  have zb : sb.size = s.size - k := by rw [hsb, ByteArray.size_extract]; omega
  have zc : sc.size = s.size - (k + 1) := by rw [hsc, ByteArray.size_extract]; omega
  have q1 : ∀ w, (Instr.slice 9 (.string s) none (some (.int .i64 (k : Int))) none).run Tryd.prog w = .ok (.string sa) w := fun w => by
    rw [hsa]
    have := run_slice_string_h (P := Tryd.prog) w 9 s Tryd.underlying9 .i64 (k : Int) (by omega) (by omega)
    rwa [e4] at this
  have q2 : ∀ w, (Instr.slice 9 (.string s) (some (.int .i64 (k : Int))) none none).run Tryd.prog w = .ok (.string sb) w := fun w => by
    rw [hsb]
    have := run_slice_string_l (P := Tryd.prog) w 9 s Tryd.underlying9 .i64 (k : Int) (by omega) (by omega)
    rwa [e4] at this
  have q3 : ∀ w, (Instr.slice 9 (.string s) (some (.int .i64 ((k : Int) + 1))) none none).run Tryd.prog w = .ok (.string sc) w := fun w => by
    rw [hsc]
    have := run_slice_string_l (P := Tryd.prog) w 9 s Tryd.underlying9 .i64 ((k : Int) + 1) (by omega) (by omega)
    rwa [show ((k : Int) + 1).toNat = k + 1 from by omega] at this
  have hparts : byN sa ++ byN sb = byN s := by rw [hsa, hsb]; exact byN_parts s k
  obtain ⟨sd, hsd⟩ : ∃ sd, sd = sa ++ sc := ⟨_, rfl⟩
  have q4 : ∀ w, (Op.stringOp .add sa sc).run Tryd.prog w = .ok (.string sd) w := fun w => by
    rw [hsd]
    exact run_string_add_sum w sa sc (by omega)
  have zd : sd.size = s.size - 1 := by rw [hsd, ByteArray.size_append]; omega
  have hjoin : byN sd = byN sa ++ byN sc := by rw [hsd, byN_append]
  clear hsa hsb hsc hsd
  have hconv := fun w => run_bytes_of_string (P := Tryd.prog) w 9 37 5 s Tryd.underlying9 Tryd.underlying37 Tryd.underlying5
  obtain ⟨x, hx⟩ := u8_range ((s.data[k]'hkn).toNat : Int) a2 (by omega) (by have := (s.data[k]'hkn).toNat_lt; omega) b20 (by omega)
  have hback := fun c cap B t fr => turned_back s k c cap x B t fr
  have zt : (turned s k x).size = s.size := turned_size s k x
  have hbyte := fun c => bytesRow_at s c k hkn
  revert hback zt
  generalize turned s k x = st
  intro hback zt
  have HBK := Lib.hid hback
  have HBY := Lib.hid hbyte
  have HP := Lib.hid (And.intro za (And.intro zb (And.intro zc (And.intro zd (And.intro zt (And.intro hparts hjoin))))))
  clear hback hbyte za zb zc zd zt hparts hjoin
  go_enter Tryd.func6, Tryd.ntmps6
  go_wp2_with (first
    | (go_at_call 12; refine (new_calls w HL.out).mono ?_; rintro e w2 ⟨rfl, H2, hB2⟩; have I2 := HI.of_new HL.out H2 rfl hB2; clear H2 hB2)
    | (go_at_call 14; refine (write_calls w2 _ _ _ 0 sa I2.laid I2.h (by have := HP.out.1; omega) (by omega)).mono ?_; rintro e w3 ⟨rfl, u3, H3, hf3, ho3⟩; have I3 := I2.write hlt H3 hf3 ho3; clear H3 hf3 ho3 I2)
    | (go_at_call 13; refine (copy_calls w3 _ _ _ _ I3.h).mono ?_; rintro e w4 ⟨rfl, u4, H4, hf4, hB4⟩; have J4 := I3.copy H4 hf4 hB4; clear H4 hf4 hB4 I3)
    | (go_at_call 14; refine (write_calls w4 _ _ _ _ sb J4.laid J4.h (by have := HP.out.2.1; omega) (by have := HP.out.1; omega)).mono ?_; rintro e w5 ⟨rfl, u5, H5, hf5, ho5⟩; have J5 := J4.write hlt H5 hf5 ho5; clear H5 hf5 ho5 J4; have hcell := fun c fr => (block_cell (alloc_new w5 (.cells (bytesRow s c) 5 fr) _ rfl) k).trans (HBY.out c); have hfrz := fun c => row_frozen w5 (bytesRow s c) k (Array.getElem?_eq_some_iff.1 (HBY.out c)).1)
    | (go_at_call 14; refine (apart_write J5 sc hlt (by have := HP.out.2.2.1; omega) (by have := HP.out.1; omega) (((Below.refl _ w5).alloc (Nat.le_refl _) _).drew.setCell (Nat.le_refl _) _) (block_set (alloc_new w5 _ _ rfl) k _)).mono ?_; rintro e w7 ⟨rfl, v7, K7⟩; clear J5 hcell hfrz)
    | (go_at_call 11; refine (refOf_calls w7 s hs1).mono ?_; rintro e w8 ⟨rfl, hB8⟩; have K8 := K7.keepB hB8; clear K7 hB8)
    | (apply wpList_store_mid (ty := 24) (x := .tmp 11) (y := .tmp 61) (o := 0) (cells := (cells8 (sumN (byN s) s.size)).toArray); (case ho => exact rfl); (case hgd => exact rfl); (case hx => exact rfl); (case hy => exact digV_agg _); (case ht => exact there_32 (alloc_new _ _ _ rfl) rfl (sumN (byN s) s.size) (sumN_length _ _)); (case hi => exact digV_size _ (sumN_length _ _)); (case h1 => exact all_oneCell_toArray (cells8_one _))))
  have K9 := K8.keepB (setCells_below (g := w8.heap.size) (cells8 (sumN (byN s) s.size)) 0 _ _ _ (Nat.le_refl _) ((Below.refl _ w8).alloc (Nat.le_refl _) (.cells zero32 24 (0, 0))))
  have hD := setCells_whole (t := 24) (fr := (0, 0)) (cells8 (sumN (byN s) s.size)) (w8.alloc (.cells zero32 24 (0, 0))) zero32 (alloc_new w8 _ _ rfl) (by rw [cells8_length, sumN_length]; rfl)
  clear K8
  show Code.wp _ _ _ _ ((w8.alloc (.cells zero32 24 (0, 0))).setCells w8.heap.size 0 (cells8 (sumN (byN s) s.size)))
  generalize (w8.alloc (.cells zero32 24 (0, 0))).setCells w8.heap.size 0 (cells8 (sumN (byN s) s.size)) = w9 at K9 hD ⊢
  have hst : st.size ≤ 1000000000 := by have := HP.out.2.2.2.2.1; omega
  have hsd : sd.size ≤ 1000000000 := by have := HP.out.2.2.2.1; omega
  have hgd := guard_dig
  have hDr : ∀ d os, (Go.Sort.grow (redrawn w9 d) os).heap[w8.heap.size]? = some (.cells (cells8 (sumN (byN s) s.size)).toArray 24 (0, 0)) := fun d os => by rw [(below_regrown w9 d os).block _ (lt_of_block hD)]; exact hD
  have hcv := fun cap d os => HBK.out _ cap _ _ _ _ (K9.keepB (below_regrown w9 d os)).b
  have HK := Lib.hid K9
  have HD := Lib.hid hDr
  have HZ := Lib.hid (And.intro hst hsd)
  clear K9 hDr hD hst hsd
  by_cases c1 : sumN (byN s) s.size = sumN (byN st) st.size
  · have heq : ∀ w, (Go.binOp .eql 24 (digV (sumN (byN s) s.size)) (digV (sumN (byN st) st.size))).run Tryd.prog w = .ok (.bool true) w := by
      rw [← c1]
      exact eql_same _ (sumN_length _ _) (sumN_lt _ _)
    clear c1
    refine QT.wp_region_below_tail 17 (by kernel_rfl) (by kernel_rfl) ?_
    simp only [List.take_succ_cons, List.take_zero, List.drop_succ_cons, List.drop_zero]
    refine wpQuiet_load_rowG rfl 24 (.tmp 11) rfl w8.heap.size rfl 24 (cells8 (sumN (byN s) s.size)).toArray (0, 0) (.array 32 5) (by rintro _ ⟨p, rfl⟩; exact HD.out p.d p.os) und24 rfl (digV_size _ (sumN_length _ _)) (v := digV (sumN (byN s) s.size)) (digV_agg _) ?_
    quiet_step (fail)
    quiet_step (fail)
    quiet_step ((go_at_call 11; exact Calls.regrown_of (refOf_calls _ st HZ.out.1)))
    quiet_step (fail)
    quiet_step (fail)
    refine wpQuiet_skip (by kernel_rfl) ?_
    refine wpQuiet_skip (by kernel_rfl) ?_
    refine wpQuiet_skip (by kernel_rfl) ?_
    refine wpQuiet_skip (by kernel_rfl) ?_
    refine wpQuiet_skip (by kernel_rfl) ?_
    refine wpQuiet_skip (by kernel_rfl) ?_
    refine wpQuiet_skip (by kernel_rfl) ?_
    refine wpQuiet_skip (by kernel_rfl) ?_
    refine wpQuiet_skip (by kernel_rfl) ?_
    refine wpQuiet_skip (by kernel_rfl) ?_
    refine wpQuiet_skip (by kernel_rfl) ?_
    refine wpQuiet_nil ?_
    intro w10 hw'
    obtain ⟨pq, hw''⟩ := hw'
    have K := (HK.out).keepB (below_regrown w9 pq.d pq.os)
    rw [← hw''] at K
    clear hw''
    go_wp2_with (go_at_call 9; refine (hashed_calls w10 K.j.laid).mono ?_; rintro e w11 ⟨rfl, hB11⟩)
    go_ret
    exact ⟨rfl, (K.keepB hB11).j.below⟩
  · have hne : (sumN (byN s) s.size == sumN (byN st) st.size) = false := beq_eq_false_iff_ne.mpr c1
    have hne' : (sumN (byN st) st.size == sumN (byN s) s.size) = false := beq_eq_false_iff_ne.mpr (fun e => c1 e.symm)
    have heq : ∀ w, (Go.binOp .eql 24 (digV (sumN (byN s) s.size)) (digV (sumN (byN st) st.size))).run Tryd.prog w = .ok (.bool false) w := fun w => by
      rw [eql_dig _ _ (sumN_length _ _) (sumN_length _ _) (sumN_lt _ _) (sumN_lt _ _), hne]
    have hnq : ∀ w, (Go.binOp .neq 24 (digV (sumN (byN st) st.size)) (digV (sumN (byN s) s.size))).run Tryd.prog w = .ok (.bool true) w := fun w => by
      rw [neq_dig _ _ (sumN_length _ _) (sumN_length _ _) (sumN_lt _ _) (sumN_lt _ _), hne']
      rfl
    clear hne hne'
    by_cases c2 : sumN (byN s) s.size = sumN (byN sd) sd.size
    · have heq2 : ∀ w, (Go.binOp .eql 24 (digV (sumN (byN s) s.size)) (digV (sumN (byN sd) sd.size))).run Tryd.prog w = .ok (.bool true) w := by
        rw [← c2]
        exact eql_same _ (sumN_length _ _) (sumN_lt _ _)
      clear c2
      refine QT.wp_region_below_tail 17 (by kernel_rfl) (by kernel_rfl) ?_
      simp only [List.take_succ_cons, List.take_zero, List.drop_succ_cons, List.drop_zero]
      refine wpQuiet_load_rowG rfl 24 (.tmp 11) rfl w8.heap.size rfl 24 (cells8 (sumN (byN s) s.size)).toArray (0, 0) (.array 32 5) (by rintro _ ⟨p, rfl⟩; exact HD.out p.d p.os) und24 rfl (digV_size _ (sumN_length _ _)) (v := digV (sumN (byN s) s.size)) (digV_agg _) ?_
      quiet_step (fail)
      quiet_step (fail)
      quiet_step ((go_at_call 11; exact Calls.regrown_of (refOf_calls _ st HZ.out.1)))
      quiet_step (fail)
      quiet_step (fail)
      refine wpQuiet_load_rowG rfl 24 (.tmp 11) rfl w8.heap.size rfl 24 (cells8 (sumN (byN s) s.size)).toArray (0, 0) (.array 32 5) (by rintro _ ⟨p, rfl⟩; exact HD.out p.d p.os) und24 rfl (digV_size _ (sumN_length _ _)) (v := digV (sumN (byN s) s.size)) (digV_agg _) ?_
      quiet_step (fail)
      quiet_step (fail)
      quiet_step (fail)
      quiet_step (fail)
      quiet_step (fail)
      quiet_step (fail)
      quiet_step (fail)
      quiet_step (fail)
      quiet_step ((go_at_call 11; exact Calls.regrown_of (refOf_calls _ sd HZ.out.2)))
      quiet_step (fail)
      refine wpQuiet_nil ?_
      intro w10 hw'
      obtain ⟨pq, hw''⟩ := hw'
      have K := (HK.out).keepB (below_regrown w9 pq.d pq.os)
      rw [← hw''] at K
      clear hw''
      go_wp2_with (go_at_call 9; refine (hashed_calls w10 K.j.laid).mono ?_; rintro e w11 ⟨rfl, hB11⟩)
      go_ret
      exact ⟨rfl, (K.keepB hB11).j.below⟩
    · have hne : (sumN (byN s) s.size == sumN (byN sd) sd.size) = false := beq_eq_false_iff_ne.mpr c2
      have hne' : (sumN (byN sd) sd.size == sumN (byN s) s.size) = false := beq_eq_false_iff_ne.mpr (fun e => c2 e.symm)
      have heq2 : ∀ w, (Go.binOp .eql 24 (digV (sumN (byN s) s.size)) (digV (sumN (byN sd) sd.size))).run Tryd.prog w = .ok (.bool false) w := fun w => by
        rw [eql_dig _ _ (sumN_length _ _) (sumN_length _ _) (sumN_lt _ _) (sumN_lt _ _), hne]
      have hnq2 : ∀ w, (Go.binOp .neq 24 (digV (sumN (byN sd) sd.size)) (digV (sumN (byN s) s.size))).run Tryd.prog w = .ok (.bool true) w := fun w => by
        rw [neq_dig _ _ (sumN_length _ _) (sumN_length _ _) (sumN_lt _ _) (sumN_lt _ _), hne']
        rfl
      clear hne hne'
      refine QT.wp_region_below_tail 17 (by kernel_rfl) (by kernel_rfl) ?_
      simp only [List.take_succ_cons, List.take_zero, List.drop_succ_cons, List.drop_zero]
      refine wpQuiet_load_rowG rfl 24 (.tmp 11) rfl w8.heap.size rfl 24 (cells8 (sumN (byN s) s.size)).toArray (0, 0) (.array 32 5) (by rintro _ ⟨p, rfl⟩; exact HD.out p.d p.os) und24 rfl (digV_size _ (sumN_length _ _)) (v := digV (sumN (byN s) s.size)) (digV_agg _) ?_
      quiet_step (fail)
      quiet_step (fail)
      quiet_step ((go_at_call 11; exact Calls.regrown_of (refOf_calls _ st HZ.out.1)))
      quiet_step (fail)
      quiet_step (fail)
      refine wpQuiet_load_rowG rfl 24 (.tmp 11) rfl w8.heap.size rfl 24 (cells8 (sumN (byN s) s.size)).toArray (0, 0) (.array 32 5) (by rintro _ ⟨p, rfl⟩; exact HD.out p.d p.os) und24 rfl (digV_size _ (sumN_length _ _)) (v := digV (sumN (byN s) s.size)) (digV_agg _) ?_
      quiet_step (fail)
      quiet_step (fail)
      quiet_step (fail)
      quiet_step (fail)
      quiet_step (fail)
      quiet_step (fail)
      quiet_step (fail)
      quiet_step (fail)
      quiet_step ((go_at_call 11; exact Calls.regrown_of (refOf_calls _ sd HZ.out.2)))
      quiet_step (fail)
      refine wpQuiet_nil ?_
      intro w10 hw'
      obtain ⟨pq, hw''⟩ := hw'
      have K := (HK.out).keepB (below_regrown w9 pq.d pq.os)
      rw [← hw''] at K
      clear hw''
      have hsame := eql_same (sumN (byN s) s.size) (sumN_length _ _) (sumN_lt _ _)
      obtain ⟨za, zb, zc, zd, zt, hparts, hjoin⟩ := HP.out
      rw [show [] ++ byN sa ++ byN sb = byN s from hparts, show 0 + sa.size + sb.size = s.size from by omega, show [] ++ byN sa ++ byN sc = byN sd from hjoin.symm, show 0 + sa.size + sc.size = sd.size from by omega] at K
      have e12 : (sd.size : Int) = (s.size : Int) - 1 := by omega
      clear za zb zc zd zt hparts hjoin hcv
      have hcv2 := fun cap => HBK.out _ cap _ _ _ _ K.b
      go_wp2_with (first
        | (go_at_call_of 15 (Value.pointer (some ⟨w.heap.size, 0, none⟩)); refine (sum_calls _ _ _ _ _ K.j.laid K.j.h (by omega)).mono ?_; rintro e w1 ⟨rfl, hB⟩; replace K := K.keepB hB; clear hB)
        | (go_at_call_of 15 (Value.pointer (some ⟨w3.heap.size, 0, none⟩)); refine (sum_calls _ _ _ _ _ K.j.laid K.j.c (by have := HZ.out.2; omega)).mono ?_; rintro e w1 ⟨rfl, hB⟩; replace K := K.keepB hB; clear hB)
        | (go_at_call_of 10 (Value.string s); refine (of_calls _ s K.j.laid hs1).mono ?_; rintro e w1 ⟨rfl, hB⟩; replace K := K.keepB hB; clear hB; have hcv3 := fun cap => HBK.out _ cap _ _ _ _ K.b)
        | (go_at_call_of 10 (Value.string st); refine (of_calls _ st K.j.laid HZ.out.1).mono ?_; rintro e w1 ⟨rfl, hB⟩; replace K := K.keepB hB; clear hB)
        | (go_at_call 16; refine (size_calls _ _ _ _ _ K.j.c).mono ?_; rintro e w1 ⟨rfl, rfl⟩)
        | (go_at_call 9; refine (hashed_calls _ K.j.laid).mono ?_; rintro e w1 ⟨rfl, hB⟩; replace K := K.keepB hB; clear hB))
      go_ret
      exact ⟨rfl, K.j.below⟩
end Go.Proofs.YtegjphfkkafomaaDoor.Sha
