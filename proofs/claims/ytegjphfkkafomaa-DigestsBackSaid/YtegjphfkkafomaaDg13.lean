/- DigestsBack: the walk. -/
import Derived.Test.YtegjphfkkafomaaDg12
namespace Go.Proofs.Ytegjphfkkafomaa.Dg
open Go.RowKit Go.Proofs Go.Proofs.YtegjphfkkafomaaW.PrintWords Go.Proofs.YtegjphfkkafomaaW.PrintLast Go.Proofs.YtegjphfkkafomaaW.PrintMore

/-- What stands in DigestsBack: two digests, and two bytes, that came in. -/
structure BaI (w : World) (a b : List Nat) (p q : Int) (wr : World) : Prop where
  below : Below w.heap.size w wr
  a : wr.heap[w.heap.size]? = some (.cells (cells8 a).toArray 24 (0, 0))
  b : wr.heap[w.heap.size + 1]? = some (.cells (cells8 b).toArray 24 (0, 0))
  x : wr.heap[w.heap.size + 1 + 1]? = some (.cells #[.int .u8 p, .int .u8 q] 32 (0, 0))
theorem BaI.keepB {w w2 w3 : World} {a b : List Nat} {p q : Int} (h : BaI w a b p q w2) (hB : Below w2.heap.size w2 w3) : BaI w a b p q w3 :=
  ⟨h.below.trans (hB.mono h.below.size), by rw [hB.block _ (lt_of_block h.a)]; exact h.a, by rw [hB.block _ (lt_of_block h.b)]; exact h.b, by rw [hB.block _ (lt_of_block h.x)]; exact h.x⟩
theorem BaI.start (w : World) (a b : List Nat) (p q : Int) : BaI w a b p q (((w.alloc (.cells (cells8 a).toArray 24 (0, 0))).alloc (.cells (cells8 b).toArray 24 (0, 0))).alloc (.cells #[.int .u8 p, .int .u8 q] 32 (0, 0))) := by
  refine ⟨(((Below.refl _ _).alloc (Nat.le_refl _) _).alloc (by simp) _).alloc (by simp; omega) _, ?_, ?_, alloc_new _ _ _ (by simp)⟩
  · rw [Below.heap_alloc _ _ _ (by simp; omega)]
    exact two_new _ _ _
  · rw [Below.heap_alloc _ _ _ (by simp)]
    exact alloc_new _ _ _ (by simp)
abbrev zlit : Value := Value.agg #[.int .u8 0, .int .u8 0, .int .u8 0, .int .u8 0, .int .u8 0, .int .u8 0, .int .u8 0, .int .u8 0, .int .u8 0, .int .u8 0, .int .u8 0, .int .u8 0, .int .u8 0, .int .u8 0, .int .u8 0, .int .u8 0, .int .u8 0, .int .u8 0, .int .u8 0, .int .u8 0, .int .u8 0, .int .u8 0, .int .u8 0, .int .u8 0, .int .u8 0, .int .u8 0, .int .u8 0, .int .u8 0, .int .u8 0, .int .u8 0, .int .u8 0, .int .u8 0]
theorem gate_dst {P : Program} {ops : Array Oper} {Q : Exit → Act → World → Prop} {rest : List Oper} {a : Act} {w : World} (n : Tmp) {op : Op} {type : TypeId} {pos : String} {after : Array Edge} {guard : Option (Nat × Bool)}
    (h : wpList P ops Q ({ dst := some n, op := op, type := type, pos := pos, after := after, guard := guard } :: rest) a w) : wpList P ops Q ({ dst := some n, op := op, type := type, pos := pos, after := after, guard := guard } :: rest) a w := h
theorem gate_store {P : Program} {ops : Array Oper} {Q : Exit → Act → World → Prop} {rest : List Oper} {a : Act} {w : World} (x y : Tmp) {t : TypeId} {dst : Option Tmp} {type : TypeId} {pos : String} {after : Array Edge} {guard : Option (Nat × Bool)}
    (h : wpList P ops Q ({ dst := dst, op := .store t (.tmp x) (.tmp y), type := type, pos := pos, after := after, guard := guard } :: rest) a w) : wpList P ops Q ({ dst := dst, op := .store t (.tmp x) (.tmp y), type := type, pos := pos, after := after, guard := guard } :: rest) a w := h
theorem wpList_neq24 {P : Program} {ops : Array Oper} {rest : List Oper} {o : Oper} {a : Act} {w : World} {Q : Exit → Act → World → Prop} (hgd : Region.wanted o (yielded ops a.tmps) = true) (x y : Operand) (ho : o.op = .binOp .neq 24 x y 24)
    (u v : Value) (hx : a.eval x = u) (hy : a.eval y = v) (b : Bool) (hg : ∀ w, (eqGuard .neq 24 x y u v).run P w = .ok () w) (hr : ∀ w, (Go.binOp .neq 24 u v).run P w = .ok (.bool b) w)
    (h : wpList P ops Q rest (a.put o.dst (.bool b)) w) : wpList P ops Q (o :: rest) a w :=
  wpList_step fun _ hK => by
    rw [if_pos hgd]
    unfold Oper.wp execOp
    simp only [ho, hx, hy, Sem.run_bind, hg, hr, Result.andThen_ok]
    exact hK _ _ h
attribute [local irreducible] digV Go.wpQuiet
set_option maxHeartbeats 40000000 in
set_option maxRecDepth 100000 in
theorem back_calls (a b : List Nat) (p q : Nat) (w : World) (ha : a.length = 32) (ba : ∀ x ∈ a, x < 256) (hb : b.length = 32) (bb : ∀ x ∈ b, x < 256) (hp : p < 256) (hq : q < 256) :
    Calls Try.prog 5 #[digV a, digV b, .agg #[.int .u8 (p : Int), .int .u8 (q : Int)]] w fun e w' => e = .returned (.bool true) ∧ Below w.heap.size w w' := by
  have HN := Lib.hid (fun w => named_calls w)
  have HI := Lib.hid (BaI.start w a b (p : Int) (q : Int))
  have HTa := Lib.hid (fun w => text_calls w a ha ba)
  have HTb := Lib.hid (fun w => text_calls w b hb bb)
  have hST := text_inj a b ha ba hb bb
  have hz : (textS a).size = 71 := by rw [textS_size, ha]
  have HPa := Lib.hid (show IsText (textS a) a from ⟨ha, ba, rfl⟩)
  have hab : ∀ w, (Go.binOp .eql 24 (digV a) (digV b)).run Try.prog w = .ok (.bool (a == b)) w := fun w => eql_dig a b ha hb ba bb w
  have haa := neq_same a ha ba
  have hgd := guard_dig
  have HSa := Lib.hid (fun w => short_calls w a ha ba)
  have hsl : ∀ w, (Instr.slice 9 (.string (textS a)) (some (.int .i64 7)) (some (.int .i64 19)) none).run Try.prog w = .ok (.string (shortS a)) w := slice_both (textS a) 7 19 (by omega) (by rw [textS_size]; omega)
  have HLa := Lib.hid (fun w => less_calls w a b ha ba hb bb)
  have HMa := Lib.hid (fun w => less_calls w b a hb bb ha ba)
  have HLT := Lib.hid (less_text a b (by rw [ha, hb]) ba bb)
  have HCs := Lib.hid (show ((a == b) = true ∧ lessB a b = false ∧ lessB b a = false) ∨ ((a == b) = false ∧ lessB a b = true ∧ lessB b a = false) ∨ ((a == b) = false ∧ lessB a b = false ∧ lessB b a = true) from by
    by_cases e : a = b
    · rw [e]
      exact .inl ⟨by simp, less_self b, less_self b⟩
    · have e2 : (a == b) = false := by simpa using e
      rcases less_or a b ha ba hb bb e with ⟨h1, h2⟩ | ⟨h1, h2⟩
      · exact .inr (.inl ⟨e2, h1, h2⟩)
      · exact .inr (.inr ⟨e2, h1, h2⟩))
  generalize shortS a = sh at *
  rw [digV_agg, digV_agg]
  obtain ⟨S, hS⟩ : ∃ S, S = textS a := ⟨_, rfl⟩
  obtain ⟨T, hT⟩ : ∃ T, T = textS b := ⟨_, rfl⟩
  rw [← hS] at HTa hST hz HPa hsl HLT
  rw [← hT] at HTb hST HLT
  have HS := Lib.hid hS
  have HT := Lib.hid hT
  clear hS hT
  have HST := Lib.hid hST
  generalize (a == b) = x at hST hab HCs HST
  obtain ⟨k, hk⟩ : ∃ k, k = p % 71 := ⟨_, rfl⟩
  have k1 : Int.tmod (p : Int) 71 = (k : Int) := by rw [Int.tmod_eq_emod_of_nonneg (by omega)]; omega
  have k2 : (p : Int) % 71 = (k : Int) := by omega
  have hk71 : k < 71 := by omega
  clear hk
  go_enter Try.func5, Try.ntmps5
  go_wp2
  obtain ⟨W, hW⟩ : ∃ W, W = ((w.alloc (.cells (cells8 a).toArray 24 (0, 0))).alloc (.cells (cells8 b).toArray 24 (0, 0))).alloc (.cells #[.int .u8 (p : Int), .int .u8 (q : Int)] 32 (0, 0)) := ⟨_, rfl⟩
  have I := HI.out
  rw [← hW] at I ⊢
  clear hW HI
  refine wp_region_quiet_below (by kernel_rfl) (by kernel_rfl) ?_
  refine wpQuiet_load_rowG (by kernel_rfl) 24 (.tmp 3) rfl (w.heap.size) rfl 24 (cells8 a).toArray (0, 0) (.array 32 5) (by rintro _ ⟨k, rfl⟩; exact (I.keepB (below_regrown W k.d k.os)).a) und24 rfl (digV_size _ ha) (v := digV a) (digV_agg _) ?_
  quiet_step ((go_at_call 8; exact Calls.regrown_of (HTa.out _)))
  refine wpQuiet_load_rowG (by kernel_rfl) 24 (.tmp 4) rfl (w.heap.size + 1) rfl 24 (cells8 b).toArray (0, 0) (.array 32 5) (by rintro _ ⟨k, rfl⟩; exact (I.keepB (below_regrown W k.d k.os)).b) und24 rfl (digV_size _ hb) (v := digV b) (digV_agg _) ?_
  quiet_step ((go_at_call 8; exact Calls.regrown_of (HTb.out _)))
  quiet_step (fail)
  quiet_step (fail)
  refine wpQuiet_nil ?_
  intro w1 hw'
  obtain ⟨pq, hw''⟩ := hw'
  have I1 := I.keepB (below_regrown W pq.d pq.os)
  rw [← hw''] at I1
  clear hw'' I
  have e1 := I1.a
  have f1 := I1.b
  go_wp2_with (first
    | (go_at_call_of 7 (Value.string S); refine (parse_calls S _).mono ?_; intro e w2 hP; obtain ⟨rfl, hB2⟩ := hP.some HPa.out; have I2 := I1.keepB hB2; clear hP I1 hB2 e1 f1)
    | (apply wpList_store_mid (ty := 24) (x := .tmp 9) (y := .tmp 22) (o := 0) (cells := (cells8 a).toArray); (case ho => exact rfl); (case hgd => exact rfl); (case hx => exact rfl); (case hy => exact digV_agg _); (case ht => exact there_32 (alloc_new _ _ _ rfl) rfl a ha); (case hi => exact digV_size _ ha); (case h1 => exact all_oneCell_toArray (cells8_one _)); obtain ⟨hBx, hdx⟩ := new_digest w2 a ha; show wpList _ _ _ _ _ ((w2.alloc (.cells zero32 24 (0, 0))).setCells w2.heap.size 0 (cells8 a)); generalize (w2.alloc (.cells zero32 24 (0, 0))).setCells w2.heap.size 0 (cells8 a) = w3 at hBx hdx ⊢; have I3 := I2.keepB hBx; have e3 := I3.a; have f3 := I3.b; have c3 := hdx; have x3 : w3.cell? ⟨w.heap.size + 1 + 1, 0, none⟩ = some (.int .u8 (p : Int)) := (by rw [block_cell I3.x]; rfl); have y3 : w3.cell? ⟨w.heap.size + 1 + 1, 1, none⟩ = some (.int .u8 (q : Int)) := (by rw [block_cell I3.x]; rfl); generalize w2.heap.size = C at c3 ⊢; clear I2 hBx hdx)
    | ((with_reducible refine gate_dst 28 ?_); refine wpList_load_rowW (by kernel_rfl) 24 (.tmp 9) rfl (C) rfl 24 (cells8 a).toArray (0, 0) (.array 32 5) c3 und24 rfl (digV_size _ ha) ?_; rw [← digV_agg a])
    | ((with_reducible refine gate_dst 29 ?_); refine wpList_load_rowW (by kernel_rfl) 24 (.tmp 3) rfl (w.heap.size) rfl 24 (cells8 a).toArray (0, 0) (.array 32 5) e3 und24 rfl (digV_size _ ha) ?_; rw [← digV_agg a])
    | ((with_reducible refine gate_dst 40 ?_); refine wpList_load_rowW (by kernel_rfl) 24 (.tmp 3) rfl (w.heap.size) rfl 24 (cells8 a).toArray (0, 0) (.array 32 5) e3 und24 rfl (digV_size _ ha) ?_; rw [← digV_agg a])
    | ((with_reducible refine gate_dst 41 ?_); refine wpList_load_rowW (by kernel_rfl) 24 (.tmp 4) rfl (w.heap.size + 1) rfl 24 (cells8 b).toArray (0, 0) (.array 32 5) f3 und24 rfl (digV_size _ hb) ?_; rw [← digV_agg b]))
  have hk1 : (k : Int) ≤ 71 := by omega
  obtain ⟨S1, hS1⟩ : ∃ S1, S1 = S.extract 0 k := ⟨_, rfl⟩
  obtain ⟨S2, hS2⟩ : ∃ S2, S2 = S.extract (k + 1) S.size := ⟨_, rfl⟩
  obtain ⟨Q, hQ⟩ : ∃ Q : ByteArray, Q = ⟨#[UInt8.ofNat q]⟩ := ⟨_, rfl⟩
  obtain ⟨SQ, hSQ⟩ : ∃ SQ, SQ = S1 ++ Q := ⟨_, rfl⟩
  obtain ⟨U, hU⟩ : ∃ U, U = SQ ++ S2 := ⟨_, rfl⟩
  have z1 : S1.size ≤ 71 := by rw [hS1, ByteArray.size_extract]; omega
  have z2 : S2.size ≤ 71 := by rw [hS2, ByteArray.size_extract]; omega
  have z3 : SQ.size ≤ 72 := by rw [hSQ, ByteArray.size_append, hQ]; show S1.size + 1 ≤ 72; omega
  have fs1 : ∀ w, (Instr.slice 9 (.string S) none (some (.int .i64 (k : Int))) none).run Try.prog w = .ok (.string S1) w := fun w => by rw [hS1]; exact slice_str S k (by omega) w
  have fs2 : ∀ w, (Instr.slice 9 (.string S) (some (.int .i64 ((k : Int) + 1))) none none).run Try.prog w = .ok (.string S2) w := fun w => by
    rw [hS2]
    have c1 : (k : Int) + 1 ≤ (S.size : Int) := by omega
    have c2 : (0 : Int) ≤ (k : Int) + 1 := by omega
    have c3 : ((k : Int) + 1).toNat = k + 1 := by omega
    clear hS1 hS2 hz
    go_simp
  have fa1 : ∀ w, (Op.stringOp .add S1 Q).run Try.prog w = .ok (.string SQ) w := fun w => by rw [hSQ]; exact run_string_add_sum w _ _ (by rw [hQ]; show S1.size + 1 ≤ _; omega)
  have fa2 : ∀ w, (Op.stringOp .add SQ S2).run Try.prog w = .ok (.string U) w := fun w => by rw [hU]; exact run_string_add_sum w _ _ (by omega)
  have HU := Lib.hid (show U = S.extract 0 k ++ ⟨#[UInt8.ofNat q]⟩ ++ S.extract (k + 1) S.size from by rw [hU, hSQ, hS1, hQ, hS2])
  have hqu : (UInt8.ofNat q).toNat = q := UInt8.toNat_ofNat_of_lt' hq
  have fcv : ∀ (V : World) (g c : Nat), V.heap[g]? = some (.cells #[.int .u8 (q : Int)] 5 (0, 0)) → (convert 33 9 (.slice (some ⟨g, 0, none⟩) 1 c)).run Try.prog V = .ok (.string Q) V := fun V g c hV => by
    have := run_convert_bytes_back (P := Try.prog) V 33 9 5 ⟨g, 0, none⟩ c [UInt8.ofNat q] Try.underlying33 Try.underlying5 Try.underlying9 (fun j hj => by
      have hj0 : j = 0 := by simpa using hj
      subst hj0
      rw [add_zero, block_cell hV]
      show some (Value.int .u8 (q : Int)) = some (.int .u8 (((UInt8.ofNat q).toNat : Nat) : Int))
      rw [hqu])
    rw [hQ]
    exact this
  have FCV := Lib.hid fcv
  have w1' : IntKind.i64.wrap ((k : Int) + 1) = (k : Int) + 1 := by rw [IntKind.wrap_i64]; omega
  clear hS1 hS2 hQ hSQ hU z1 z2 z3 fcv hqu k1 k2
  refine wp_region_noPanic ?_
  refine wp_region_held_drew (S := fun V => V.heap[w.heap.size + 1 + 1]? = some (.cells #[.int .u8 (p : Int), .int .u8 (q : Int)] 32 (0, 0))) (by kernel_rfl) I3.x (fun _ => ?_)
  refine wpAnyH_take (i := 0) (v := (.string S)) rfl (by kernel_rfl) (by kernel_rfl) (by kernel_rfl) (fun _ _ _ h => h) (Or.inl ⟨by rfl, fun V hV => by go_simp⟩) I3.x ?_
  simp only [List.getElem_toArray, List.getElem_cons_zero, Act.put, List.setIfInBounds_toArray, List.set_cons_zero, List.set_cons_succ]
  refine wpAnyH_take (i := 1) (v := (.int .i64 (k : Int))) rfl (by kernel_rfl) (by kernel_rfl) (by kernel_rfl) (fun _ _ _ h => h) (Or.inl ⟨by rfl, fun V hV => by go_simp⟩) I3.x ?_
  simp only [List.getElem_toArray, List.getElem_cons_succ, List.getElem_cons_zero, Act.put, List.setIfInBounds_toArray, List.set_cons_zero, List.set_cons_succ]
  refine wpAnyH_take (i := 2) (v := (.string S1)) rfl (by kernel_rfl) (by kernel_rfl) (by kernel_rfl) (fun _ _ _ h => h) (Or.inl ⟨by rfl, fun V hV => by go_simp⟩) I3.x ?_
  simp only [List.getElem_toArray, List.getElem_cons_succ, List.getElem_cons_zero, Act.put, List.setIfInBounds_toArray, List.set_cons_zero, List.set_cons_succ]
  refine wpAnyH_take (i := 3) (v := (.pointer (some ⟨w.heap.size + 1 + 1, 1, none⟩))) rfl (by kernel_rfl) (by kernel_rfl) (by kernel_rfl) (fun _ _ _ h => h) (Or.inl ⟨by rfl, fun V hV => by go_simp⟩) I3.x ?_
  simp only [List.getElem_toArray, List.getElem_cons_succ, List.getElem_cons_zero, Act.put, List.setIfInBounds_toArray, List.set_cons_zero, List.set_cons_succ]
  refine wpAnyH_take (i := 4) (v := (.int .u8 (q : Int))) rfl (by kernel_rfl) (by kernel_rfl) (by kernel_rfl) (fun _ _ _ h => h) (Or.inl ⟨by rfl, fun V hV => by have hc : V.cell? ⟨w.heap.size + 1 + 1, 1, none⟩ = some (.int .u8 (q : Int)) := (by rw [block_cell hV]; rfl); go_simp⟩) I3.x ?_
  simp only [List.getElem_toArray, List.getElem_cons_succ, List.getElem_cons_zero, Act.put, List.setIfInBounds_toArray, List.set_cons_zero, List.set_cons_succ]
  refine wpAnyH_take (i := 8) (v := (.string S)) rfl (by kernel_rfl) (by kernel_rfl) (by kernel_rfl) (fun _ _ _ h => h) (Or.inl ⟨by rfl, fun V hV => by go_simp⟩) I3.x ?_
  simp only [List.getElem_toArray, List.getElem_cons_succ, List.getElem_cons_zero, Act.put, List.setIfInBounds_toArray, List.set_cons_zero, List.set_cons_succ]
  refine wpAnyH_take (i := 9) (v := (.int .i64 (k : Int))) rfl (by kernel_rfl) (by kernel_rfl) (by kernel_rfl) (fun _ _ _ h => h) (Or.inl ⟨by rfl, fun V hV => by go_simp⟩) I3.x ?_
  simp only [List.getElem_toArray, List.getElem_cons_succ, List.getElem_cons_zero, Act.put, List.setIfInBounds_toArray, List.set_cons_zero, List.set_cons_succ]
  refine wpAnyH_take (i := 10) (v := (.int .i64 ((k : Int) + 1))) rfl (by kernel_rfl) (by kernel_rfl) (by kernel_rfl) (fun _ _ _ h => h) (Or.inl ⟨by rfl, fun V hV => by go_simp⟩) I3.x ?_
  simp only [List.getElem_toArray, List.getElem_cons_succ, List.getElem_cons_zero, Act.put, List.setIfInBounds_toArray, List.set_cons_zero, List.set_cons_succ]
  refine wpAnyH_take (i := 11) (v := (.string S2)) rfl (by kernel_rfl) (by kernel_rfl) (by kernel_rfl) (fun _ _ _ h => h) (Or.inl ⟨by rfl, fun V hV => by go_simp⟩) I3.x ?_
  simp only [List.getElem_toArray, List.getElem_cons_succ, List.getElem_cons_zero, Act.put, List.setIfInBounds_toArray, List.set_cons_zero, List.set_cons_succ]
  refine wpAnyH_ready (rs := [5]) (by kernel_rfl) (by simp) (AllReadyH.cons rfl (fun K hK => ?_) AllReadyH.nil)
  simp only [List.getElem_toArray, List.getElem_cons_succ, List.getElem_cons_zero]
  go_simp
  have hS4 : (w3.alloc (Obj.cells #[Value.int IntKind.u8 (q : Int)] 5)).drew.heap[w.heap.size + 1 + 1]? = some (.cells #[.int .u8 (p : Int), .int .u8 (q : Int)] 32 (0, 0)) := by
    show (w3.alloc _).heap[_]? = _
    rw [Below.heap_alloc _ _ _ (lt_of_block I3.x)]
    exact I3.x
  have hcvt : (convert 33 9 (.slice (some ⟨w3.heap.size, 0, none⟩) 1 1)).run Try.prog (w3.alloc (Obj.cells #[Value.int IntKind.u8 (q : Int)] 5)).drew = .ok (.string Q) _ := FCV.out _ w3.heap.size 1 (alloc_new w3 _ _ rfl)
  have B5 : Below w3.heap.size w3 (w3.alloc (Obj.cells #[Value.int IntKind.u8 (q : Int)] 5)).drew := ((Below.refl _ _).alloc (Nat.le_refl _) _).drew
  have I5 := I3.keepB B5
  have c5 := (B5.block _ (lt_of_block c3)).trans c3
  generalize (w3.alloc (Obj.cells #[Value.int IntKind.u8 (q : Int)] 5)).drew = w5 at *
  refine hK.out _ _ hS4 (fun _ => ?_)
  clear hK K
  try simp only [Act.put, List.setIfInBounds_toArray, List.set_cons_zero, List.set_cons_succ]
  refine wpAnyH_ready (rs := [6]) (by kernel_rfl) (by simp) (AllReadyH.cons rfl (fun K hK => ?_) AllReadyH.nil)
  simp only [List.getElem_toArray, List.getElem_cons_succ, List.getElem_cons_zero]
  go_simp
  refine hK.out _ _ hS4 (fun _ => ?_)
  clear hK K
  try simp only [Act.put, List.setIfInBounds_toArray, List.set_cons_zero, List.set_cons_succ]
  refine wpAnyH_ready (rs := [7]) (by kernel_rfl) (by simp) (AllReadyH.cons rfl (fun K hK => ?_) AllReadyH.nil)
  simp only [List.getElem_toArray, List.getElem_cons_succ, List.getElem_cons_zero]
  go_simp
  refine hK.out _ _ hS4 (fun _ => ?_)
  clear hK K
  try simp only [Act.put, List.setIfInBounds_toArray, List.set_cons_zero, List.set_cons_succ]
  refine wpAnyH_ready (rs := [12]) (by kernel_rfl) (by simp) (AllReadyH.cons rfl (fun K hK => ?_) AllReadyH.nil)
  simp only [List.getElem_toArray, List.getElem_cons_succ, List.getElem_cons_zero]
  go_simp
  refine hK.out _ _ hS4 (fun _ => ?_)
  clear hK K
  try simp only [Act.put, List.setIfInBounds_toArray, List.set_cons_zero, List.set_cons_succ]
  refine wpAnyH_ready (rs := [13]) (by kernel_rfl) (by simp) (AllReadyH.cons rfl (fun K hK => ?_) AllReadyH.nil)
  simp only [List.getElem_toArray, List.getElem_cons_succ, List.getElem_cons_zero]
  go_simp
  refine hK.out _ _ hS4 (fun _ => ?_)
  clear hK K
  try simp only [Act.put, List.setIfInBounds_toArray, List.set_cons_zero, List.set_cons_succ]
  refine wpAnyH_done (by kernel_rfl) ?_ _
  refine NoPanic.normal ?_
  clear hcvt B5 hS4 x3 y3 fs1 fs2 fa1 fa2 FCV w1' e3 f3 c3 I3
  go_wp2_with (fail)
  refine (parse_calls U _).mono ?_
  rintro e w6 ⟨l, c, rfl, hP, hB6⟩
  obtain ⟨hl1, hl2⟩ := hP.dig
  have I6 := I5.keepB hB6
  clear I5 hB6 c5
  rcases hP with ⟨rfl, hTx⟩ | ⟨rfl, hlz, hno⟩
  · have heq : ∀ w, (Go.binOp .eql 24 (digV l) (digV a)).run Try.prog w = .ok (.bool (l == a)) w := fun w => eql_dig l a hl1 ha hl2 ba w
    have hUS : (U.toList == S.toList) = (l == a) := by rw [hTx.2.2, HS.out]; exact text_inj l a hl1 hl2 ha ba
    have HTl := Lib.hid (show ∀ w, Calls Try.prog 8 #[digV l] w fun e w' => e = .returned (.string U) ∧ Below w.heap.size w w' from fun w => by rw [hTx.2.2]; exact text_calls w l hl1 hl2)
    clear hTx
    generalize (l == a) = y at heq hUS
    dsimp only
    go_wp2_with (first
      | (apply wpList_store_mid (ty := 24) (x := .tmp 13) (y := .tmp 65) (o := 0) (cells := (cells8 l).toArray); (case ho => exact rfl); (case hgd => exact rfl); (case hx => exact rfl); (case hy => exact digV_agg _); (case ht => exact there_32 (alloc_new _ _ _ rfl) rfl l hl1); (case hi => exact digV_size _ hl1); (case h1 => exact all_oneCell_toArray (cells8_one _)); obtain ⟨hBx, hdx⟩ := new_digest w6 l hl1; show wpList _ _ _ _ _ ((w6.alloc (.cells zero32 24 (0, 0))).setCells w6.heap.size 0 (cells8 l)); generalize (w6.alloc (.cells zero32 24 (0, 0))).setCells w6.heap.size 0 (cells8 l) = w7 at hBx hdx ⊢; have I7 := I6.keepB hBx; have d7 := hdx; generalize w6.heap.size = D at d7 ⊢; clear I6 hBx hdx)
      | ((with_reducible refine gate_dst 70 ?_); refine wpList_load_rowW (by kernel_rfl) 24 (.tmp 13) rfl (D) rfl 24 (cells8 l).toArray (0, 0) (.array 32 5) d7 und24 rfl (digV_size _ hl1) ?_; rw [← digV_agg l])
      | (go_at_call 8; refine (HTl.out _).mono ?_; rintro e w8 ⟨rfl, hB8⟩; have I8 := I7.keepB hB8; have d8 := (hB8.block _ (lt_of_block d7)).trans d7; have a8 := I8.a; clear I7 d7 hB8)
      | ((with_reducible refine gate_dst 97 ?_); refine wpList_load_rowW (by kernel_rfl) 24 (.tmp 13) rfl (D) rfl 24 (cells8 l).toArray (0, 0) (.array 32 5) d8 und24 rfl (digV_size _ hl1) ?_; rw [← digV_agg l])
      | ((with_reducible refine gate_dst 98 ?_); refine wpList_load_rowW (by kernel_rfl) 24 (.tmp 3) rfl (w.heap.size) rfl 24 (cells8 a).toArray (0, 0) (.array 32 5) a8 und24 rfl (digV_size _ ha) ?_; rw [← digV_agg a]))
    clear hUS heq HTl d8 a8
    rcases HCs.out with ⟨rfl, hl_, hm_⟩ | ⟨rfl, hl_, hm_⟩ | ⟨rfl, hl_, hm_⟩
    · have hLT := HLT.out
      have HLab : Hid (∀ w, Calls Try.prog 13 #[digV a, digV b] w fun e w' => e = .returned (.bool false) ∧ Below w.heap.size w w') := Lib.hid (by rw [← hl_]; exact HLa.out)
      have HLba : Hid (∀ w, Calls Try.prog 13 #[digV b, digV a] w fun e w' => e = .returned (.bool false) ∧ Below w.heap.size w w') := Lib.hid (by rw [← hm_]; exact HMa.out)
      rw [hl_] at hLT
      clear hl_ hm_
      have I := I8
      refine wp_region_quiet_below (by kernel_rfl) (by kernel_rfl) ?_
      refine wpQuiet_load_rowG (by kernel_rfl) 24 (.tmp 3) rfl (w.heap.size) rfl 24 (cells8 a).toArray (0, 0) (.array 32 5) (by rintro _ ⟨k, rfl⟩; exact (I.keepB (below_regrown w8 k.d k.os)).a) und24 rfl (digV_size _ ha) (v := digV a) (digV_agg _) ?_
      refine wpQuiet_load_rowG (by kernel_rfl) 24 (.tmp 4) rfl (w.heap.size + 1) rfl 24 (cells8 b).toArray (0, 0) (.array 32 5) (by rintro _ ⟨k, rfl⟩; exact (I.keepB (below_regrown w8 k.d k.os)).b) und24 rfl (digV_size _ hb) (v := digV b) (digV_agg _) ?_
      quiet_step ((go_at_call 13; exact Calls.regrown_of (HLab.out _)))
      quiet_step (fail)
      quiet_step (fail)
      quiet_step (fail)
      quiet_step (fail)
      quiet_step (fail)
      refine wpQuiet_load_rowG (by kernel_rfl) 24 (.tmp 3) rfl (w.heap.size) rfl 24 (cells8 a).toArray (0, 0) (.array 32 5) (by rintro _ ⟨k, rfl⟩; exact (I.keepB (below_regrown w8 k.d k.os)).a) und24 rfl (digV_size _ ha) (v := digV a) (digV_agg _) ?_
      refine wpQuiet_load_rowG (by kernel_rfl) 24 (.tmp 4) rfl (w.heap.size + 1) rfl 24 (cells8 b).toArray (0, 0) (.array 32 5) (by rintro _ ⟨k, rfl⟩; exact (I.keepB (below_regrown w8 k.d k.os)).b) und24 rfl (digV_size _ hb) (v := digV b) (digV_agg _) ?_
      quiet_step (fail)
      refine wpQuiet_load_rowG (by kernel_rfl) 24 (.tmp 3) rfl (w.heap.size) rfl 24 (cells8 a).toArray (0, 0) (.array 32 5) (by rintro _ ⟨k, rfl⟩; exact (I.keepB (below_regrown w8 k.d k.os)).a) und24 rfl (digV_size _ ha) (v := digV a) (digV_agg _) ?_
      refine wpQuiet_load_rowG (by kernel_rfl) 24 (.tmp 4) rfl (w.heap.size + 1) rfl 24 (cells8 b).toArray (0, 0) (.array 32 5) (by rintro _ ⟨k, rfl⟩; exact (I.keepB (below_regrown w8 k.d k.os)).b) und24 rfl (digV_size _ hb) (v := digV b) (digV_agg _) ?_
      quiet_step ((go_at_call 13; exact Calls.regrown_of (HLab.out _)))
      quiet_step (fail)
      quiet_step (fail)
      refine wpQuiet_load_rowG (by kernel_rfl) 24 (.tmp 4) rfl (w.heap.size + 1) rfl 24 (cells8 b).toArray (0, 0) (.array 32 5) (by rintro _ ⟨k, rfl⟩; exact (I.keepB (below_regrown w8 k.d k.os)).b) und24 rfl (digV_size _ hb) (v := digV b) (digV_agg _) ?_
      refine wpQuiet_load_rowG (by kernel_rfl) 24 (.tmp 3) rfl (w.heap.size) rfl 24 (cells8 a).toArray (0, 0) (.array 32 5) (by rintro _ ⟨k, rfl⟩; exact (I.keepB (below_regrown w8 k.d k.os)).a) und24 rfl (digV_size _ ha) (v := digV a) (digV_agg _) ?_
      quiet_step ((go_at_call 13; exact Calls.regrown_of (HLba.out _)))
      quiet_step (fail)
      quiet_step (fail)
      quiet_step (fail)
      quiet_step (fail)
      quiet_step (fail)
      quiet_step (fail)
      quiet_step (fail)
      refine wpQuiet_load_rowG (by kernel_rfl) 24 (.tmp 3) rfl (w.heap.size) rfl 24 (cells8 a).toArray (0, 0) (.array 32 5) (by rintro _ ⟨k, rfl⟩; exact (I.keepB (below_regrown w8 k.d k.os)).a) und24 rfl (digV_size _ ha) (v := digV a) (digV_agg _) ?_
      quiet_step ((go_at_call 11; exact Calls.regrown_of (HSa.out _)))
      quiet_step (fail)
      quiet_step (fail)
      quiet_step (fail)
      quiet_step ((go_at_call 6; exact Calls.regrown_of (HN.out _)))
      quiet_step (fail)
      quiet_step (fail)
      refine wpQuiet_nil ?_
      intro w9 hw'
      obtain ⟨pq, hw''⟩ := hw'
      have I9 := I.keepB (below_regrown w8 pq.d pq.os)
      rw [← hw''] at I9
      clear hw''
      go_wp2
      go_ret
      exact ⟨rfl, I9.below⟩
    · have hLT := HLT.out
      have HLab : Hid (∀ w, Calls Try.prog 13 #[digV a, digV b] w fun e w' => e = .returned (.bool true) ∧ Below w.heap.size w w') := Lib.hid (by rw [← hl_]; exact HLa.out)
      have HLba : Hid (∀ w, Calls Try.prog 13 #[digV b, digV a] w fun e w' => e = .returned (.bool false) ∧ Below w.heap.size w w') := Lib.hid (by rw [← hm_]; exact HMa.out)
      rw [hl_] at hLT
      clear hl_ hm_
      have I := I8
      refine wp_region_quiet_below (by kernel_rfl) (by kernel_rfl) ?_
      refine wpQuiet_load_rowG (by kernel_rfl) 24 (.tmp 3) rfl (w.heap.size) rfl 24 (cells8 a).toArray (0, 0) (.array 32 5) (by rintro _ ⟨k, rfl⟩; exact (I.keepB (below_regrown w8 k.d k.os)).a) und24 rfl (digV_size _ ha) (v := digV a) (digV_agg _) ?_
      refine wpQuiet_load_rowG (by kernel_rfl) 24 (.tmp 4) rfl (w.heap.size + 1) rfl 24 (cells8 b).toArray (0, 0) (.array 32 5) (by rintro _ ⟨k, rfl⟩; exact (I.keepB (below_regrown w8 k.d k.os)).b) und24 rfl (digV_size _ hb) (v := digV b) (digV_agg _) ?_
      quiet_step ((go_at_call 13; exact Calls.regrown_of (HLab.out _)))
      quiet_step (fail)
      quiet_step (fail)
      quiet_step (fail)
      quiet_step (fail)
      quiet_step (fail)
      refine wpQuiet_load_rowG (by kernel_rfl) 24 (.tmp 3) rfl (w.heap.size) rfl 24 (cells8 a).toArray (0, 0) (.array 32 5) (by rintro _ ⟨k, rfl⟩; exact (I.keepB (below_regrown w8 k.d k.os)).a) und24 rfl (digV_size _ ha) (v := digV a) (digV_agg _) ?_
      refine wpQuiet_load_rowG (by kernel_rfl) 24 (.tmp 4) rfl (w.heap.size + 1) rfl 24 (cells8 b).toArray (0, 0) (.array 32 5) (by rintro _ ⟨k, rfl⟩; exact (I.keepB (below_regrown w8 k.d k.os)).b) und24 rfl (digV_size _ hb) (v := digV b) (digV_agg _) ?_
      quiet_step (fail)
      refine wpQuiet_load_rowG (by kernel_rfl) 24 (.tmp 3) rfl (w.heap.size) rfl 24 (cells8 a).toArray (0, 0) (.array 32 5) (by rintro _ ⟨k, rfl⟩; exact (I.keepB (below_regrown w8 k.d k.os)).a) und24 rfl (digV_size _ ha) (v := digV a) (digV_agg _) ?_
      refine wpQuiet_load_rowG (by kernel_rfl) 24 (.tmp 4) rfl (w.heap.size + 1) rfl 24 (cells8 b).toArray (0, 0) (.array 32 5) (by rintro _ ⟨k, rfl⟩; exact (I.keepB (below_regrown w8 k.d k.os)).b) und24 rfl (digV_size _ hb) (v := digV b) (digV_agg _) ?_
      quiet_step ((go_at_call 13; exact Calls.regrown_of (HLab.out _)))
      quiet_step (fail)
      quiet_step (fail)
      refine wpQuiet_skip (by kernel_rfl) ?_
      refine wpQuiet_skip (by kernel_rfl) ?_
      refine wpQuiet_skip (by kernel_rfl) ?_
      refine wpQuiet_skip (by kernel_rfl) ?_
      quiet_step (fail)
      quiet_step (fail)
      quiet_step (fail)
      quiet_step (fail)
      quiet_step (fail)
      quiet_step (fail)
      refine wpQuiet_load_rowG (by kernel_rfl) 24 (.tmp 3) rfl (w.heap.size) rfl 24 (cells8 a).toArray (0, 0) (.array 32 5) (by rintro _ ⟨k, rfl⟩; exact (I.keepB (below_regrown w8 k.d k.os)).a) und24 rfl (digV_size _ ha) (v := digV a) (digV_agg _) ?_
      quiet_step ((go_at_call 11; exact Calls.regrown_of (HSa.out _)))
      quiet_step (fail)
      quiet_step (fail)
      quiet_step (fail)
      quiet_step ((go_at_call 6; exact Calls.regrown_of (HN.out _)))
      quiet_step (fail)
      quiet_step (fail)
      refine wpQuiet_nil ?_
      intro w9 hw'
      obtain ⟨pq, hw''⟩ := hw'
      have I9 := I.keepB (below_regrown w8 pq.d pq.os)
      rw [← hw''] at I9
      clear hw''
      go_wp2
      go_ret
      exact ⟨rfl, I9.below⟩
    · have hLT := HLT.out
      have HLab : Hid (∀ w, Calls Try.prog 13 #[digV a, digV b] w fun e w' => e = .returned (.bool false) ∧ Below w.heap.size w w') := Lib.hid (by rw [← hl_]; exact HLa.out)
      have HLba : Hid (∀ w, Calls Try.prog 13 #[digV b, digV a] w fun e w' => e = .returned (.bool true) ∧ Below w.heap.size w w') := Lib.hid (by rw [← hm_]; exact HMa.out)
      rw [hl_] at hLT
      clear hl_ hm_
      have I := I8
      refine wp_region_quiet_below (by kernel_rfl) (by kernel_rfl) ?_
      refine wpQuiet_load_rowG (by kernel_rfl) 24 (.tmp 3) rfl (w.heap.size) rfl 24 (cells8 a).toArray (0, 0) (.array 32 5) (by rintro _ ⟨k, rfl⟩; exact (I.keepB (below_regrown w8 k.d k.os)).a) und24 rfl (digV_size _ ha) (v := digV a) (digV_agg _) ?_
      refine wpQuiet_load_rowG (by kernel_rfl) 24 (.tmp 4) rfl (w.heap.size + 1) rfl 24 (cells8 b).toArray (0, 0) (.array 32 5) (by rintro _ ⟨k, rfl⟩; exact (I.keepB (below_regrown w8 k.d k.os)).b) und24 rfl (digV_size _ hb) (v := digV b) (digV_agg _) ?_
      quiet_step ((go_at_call 13; exact Calls.regrown_of (HLab.out _)))
      quiet_step (fail)
      quiet_step (fail)
      quiet_step (fail)
      quiet_step (fail)
      quiet_step (fail)
      refine wpQuiet_load_rowG (by kernel_rfl) 24 (.tmp 3) rfl (w.heap.size) rfl 24 (cells8 a).toArray (0, 0) (.array 32 5) (by rintro _ ⟨k, rfl⟩; exact (I.keepB (below_regrown w8 k.d k.os)).a) und24 rfl (digV_size _ ha) (v := digV a) (digV_agg _) ?_
      refine wpQuiet_load_rowG (by kernel_rfl) 24 (.tmp 4) rfl (w.heap.size + 1) rfl 24 (cells8 b).toArray (0, 0) (.array 32 5) (by rintro _ ⟨k, rfl⟩; exact (I.keepB (below_regrown w8 k.d k.os)).b) und24 rfl (digV_size _ hb) (v := digV b) (digV_agg _) ?_
      quiet_step (fail)
      refine wpQuiet_load_rowG (by kernel_rfl) 24 (.tmp 3) rfl (w.heap.size) rfl 24 (cells8 a).toArray (0, 0) (.array 32 5) (by rintro _ ⟨k, rfl⟩; exact (I.keepB (below_regrown w8 k.d k.os)).a) und24 rfl (digV_size _ ha) (v := digV a) (digV_agg _) ?_
      refine wpQuiet_load_rowG (by kernel_rfl) 24 (.tmp 4) rfl (w.heap.size + 1) rfl 24 (cells8 b).toArray (0, 0) (.array 32 5) (by rintro _ ⟨k, rfl⟩; exact (I.keepB (below_regrown w8 k.d k.os)).b) und24 rfl (digV_size _ hb) (v := digV b) (digV_agg _) ?_
      quiet_step ((go_at_call 13; exact Calls.regrown_of (HLab.out _)))
      quiet_step (fail)
      quiet_step (fail)
      refine wpQuiet_load_rowG (by kernel_rfl) 24 (.tmp 4) rfl (w.heap.size + 1) rfl 24 (cells8 b).toArray (0, 0) (.array 32 5) (by rintro _ ⟨k, rfl⟩; exact (I.keepB (below_regrown w8 k.d k.os)).b) und24 rfl (digV_size _ hb) (v := digV b) (digV_agg _) ?_
      refine wpQuiet_load_rowG (by kernel_rfl) 24 (.tmp 3) rfl (w.heap.size) rfl 24 (cells8 a).toArray (0, 0) (.array 32 5) (by rintro _ ⟨k, rfl⟩; exact (I.keepB (below_regrown w8 k.d k.os)).a) und24 rfl (digV_size _ ha) (v := digV a) (digV_agg _) ?_
      quiet_step ((go_at_call 13; exact Calls.regrown_of (HLba.out _)))
      quiet_step (fail)
      quiet_step (fail)
      quiet_step (fail)
      quiet_step (fail)
      quiet_step (fail)
      quiet_step (fail)
      quiet_step (fail)
      refine wpQuiet_load_rowG (by kernel_rfl) 24 (.tmp 3) rfl (w.heap.size) rfl 24 (cells8 a).toArray (0, 0) (.array 32 5) (by rintro _ ⟨k, rfl⟩; exact (I.keepB (below_regrown w8 k.d k.os)).a) und24 rfl (digV_size _ ha) (v := digV a) (digV_agg _) ?_
      quiet_step ((go_at_call 11; exact Calls.regrown_of (HSa.out _)))
      quiet_step (fail)
      quiet_step (fail)
      quiet_step (fail)
      quiet_step ((go_at_call 6; exact Calls.regrown_of (HN.out _)))
      quiet_step (fail)
      quiet_step (fail)
      refine wpQuiet_nil ?_
      intro w9 hw'
      obtain ⟨pq, hw''⟩ := hw'
      have I9 := I.keepB (below_regrown w8 pq.d pq.os)
      rw [← hw''] at I9
      clear hw''
      go_wp2
      go_ret
      exact ⟨rfl, I9.below⟩
  · have hUS : (U.toList == S.toList) = false := by
      rw [str_beq, decide_eq_false]
      intro e
      exact hno a (by rw [e]; exact HPa.out)
    have hgz := guard_zero
    have hnz := neq_zero
    rw [← hlz] at hnz
    have HGZ := Lib.hid hgz
    have HNZ := Lib.hid hnz
    clear hno hlz hgz hnz
    dsimp only
    go_wp2_with (first
      | (apply wpList_store_mid (ty := 24) (x := .tmp 13) (y := .tmp 65) (o := 0) (cells := (cells8 l).toArray); (case ho => exact rfl); (case hgd => exact rfl); (case hx => exact rfl); (case hy => exact digV_agg _); (case ht => exact there_32 (alloc_new _ _ _ rfl) rfl l hl1); (case hi => exact digV_size _ hl1); (case h1 => exact all_oneCell_toArray (cells8_one _)); obtain ⟨hBx, hdx⟩ := new_digest w6 l hl1; show wpList _ _ _ _ _ ((w6.alloc (.cells zero32 24 (0, 0))).setCells w6.heap.size 0 (cells8 l)); generalize (w6.alloc (.cells zero32 24 (0, 0))).setCells w6.heap.size 0 (cells8 l) = w8 at hBx hdx ⊢; have I8 := I6.keepB hBx; have d8 := hdx; generalize w6.heap.size = D at d8 ⊢; clear I6 hBx hdx)
      | ((with_reducible refine gate_dst 87 ?_); refine wpList_load_rowW (by kernel_rfl) 24 (.tmp 13) rfl (D) rfl 24 (cells8 l).toArray (0, 0) (.array 32 5) d8 und24 rfl (digV_size _ hl1) ?_; rw [← digV_agg l])
      | ((with_reducible refine gate_dst 89 ?_); refine wpList_neq24 (by kernel_rfl) (.tmp 87) (.tmp 88) rfl (digV l) zlit rfl rfl false (fun w => HGZ.out _ _ _ _ w) HNZ.out ?_))
    clear hUS d8
    rcases HCs.out with ⟨rfl, hl_, hm_⟩ | ⟨rfl, hl_, hm_⟩ | ⟨rfl, hl_, hm_⟩
    · have hLT := HLT.out
      have HLab : Hid (∀ w, Calls Try.prog 13 #[digV a, digV b] w fun e w' => e = .returned (.bool false) ∧ Below w.heap.size w w') := Lib.hid (by rw [← hl_]; exact HLa.out)
      have HLba : Hid (∀ w, Calls Try.prog 13 #[digV b, digV a] w fun e w' => e = .returned (.bool false) ∧ Below w.heap.size w w') := Lib.hid (by rw [← hm_]; exact HMa.out)
      rw [hl_] at hLT
      clear hl_ hm_
      have I := I8
      refine wp_region_quiet_below (by kernel_rfl) (by kernel_rfl) ?_
      refine wpQuiet_load_rowG (by kernel_rfl) 24 (.tmp 3) rfl (w.heap.size) rfl 24 (cells8 a).toArray (0, 0) (.array 32 5) (by rintro _ ⟨k, rfl⟩; exact (I.keepB (below_regrown w8 k.d k.os)).a) und24 rfl (digV_size _ ha) (v := digV a) (digV_agg _) ?_
      refine wpQuiet_load_rowG (by kernel_rfl) 24 (.tmp 4) rfl (w.heap.size + 1) rfl 24 (cells8 b).toArray (0, 0) (.array 32 5) (by rintro _ ⟨k, rfl⟩; exact (I.keepB (below_regrown w8 k.d k.os)).b) und24 rfl (digV_size _ hb) (v := digV b) (digV_agg _) ?_
      quiet_step ((go_at_call 13; exact Calls.regrown_of (HLab.out _)))
      quiet_step (fail)
      quiet_step (fail)
      quiet_step (fail)
      quiet_step (fail)
      quiet_step (fail)
      refine wpQuiet_load_rowG (by kernel_rfl) 24 (.tmp 3) rfl (w.heap.size) rfl 24 (cells8 a).toArray (0, 0) (.array 32 5) (by rintro _ ⟨k, rfl⟩; exact (I.keepB (below_regrown w8 k.d k.os)).a) und24 rfl (digV_size _ ha) (v := digV a) (digV_agg _) ?_
      refine wpQuiet_load_rowG (by kernel_rfl) 24 (.tmp 4) rfl (w.heap.size + 1) rfl 24 (cells8 b).toArray (0, 0) (.array 32 5) (by rintro _ ⟨k, rfl⟩; exact (I.keepB (below_regrown w8 k.d k.os)).b) und24 rfl (digV_size _ hb) (v := digV b) (digV_agg _) ?_
      quiet_step (fail)
      refine wpQuiet_load_rowG (by kernel_rfl) 24 (.tmp 3) rfl (w.heap.size) rfl 24 (cells8 a).toArray (0, 0) (.array 32 5) (by rintro _ ⟨k, rfl⟩; exact (I.keepB (below_regrown w8 k.d k.os)).a) und24 rfl (digV_size _ ha) (v := digV a) (digV_agg _) ?_
      refine wpQuiet_load_rowG (by kernel_rfl) 24 (.tmp 4) rfl (w.heap.size + 1) rfl 24 (cells8 b).toArray (0, 0) (.array 32 5) (by rintro _ ⟨k, rfl⟩; exact (I.keepB (below_regrown w8 k.d k.os)).b) und24 rfl (digV_size _ hb) (v := digV b) (digV_agg _) ?_
      quiet_step ((go_at_call 13; exact Calls.regrown_of (HLab.out _)))
      quiet_step (fail)
      quiet_step (fail)
      refine wpQuiet_load_rowG (by kernel_rfl) 24 (.tmp 4) rfl (w.heap.size + 1) rfl 24 (cells8 b).toArray (0, 0) (.array 32 5) (by rintro _ ⟨k, rfl⟩; exact (I.keepB (below_regrown w8 k.d k.os)).b) und24 rfl (digV_size _ hb) (v := digV b) (digV_agg _) ?_
      refine wpQuiet_load_rowG (by kernel_rfl) 24 (.tmp 3) rfl (w.heap.size) rfl 24 (cells8 a).toArray (0, 0) (.array 32 5) (by rintro _ ⟨k, rfl⟩; exact (I.keepB (below_regrown w8 k.d k.os)).a) und24 rfl (digV_size _ ha) (v := digV a) (digV_agg _) ?_
      quiet_step ((go_at_call 13; exact Calls.regrown_of (HLba.out _)))
      quiet_step (fail)
      quiet_step (fail)
      quiet_step (fail)
      quiet_step (fail)
      quiet_step (fail)
      quiet_step (fail)
      quiet_step (fail)
      refine wpQuiet_load_rowG (by kernel_rfl) 24 (.tmp 3) rfl (w.heap.size) rfl 24 (cells8 a).toArray (0, 0) (.array 32 5) (by rintro _ ⟨k, rfl⟩; exact (I.keepB (below_regrown w8 k.d k.os)).a) und24 rfl (digV_size _ ha) (v := digV a) (digV_agg _) ?_
      quiet_step ((go_at_call 11; exact Calls.regrown_of (HSa.out _)))
      quiet_step (fail)
      quiet_step (fail)
      quiet_step (fail)
      quiet_step ((go_at_call 6; exact Calls.regrown_of (HN.out _)))
      quiet_step (fail)
      quiet_step (fail)
      refine wpQuiet_nil ?_
      intro w9 hw'
      obtain ⟨pq, hw''⟩ := hw'
      have I9 := I.keepB (below_regrown w8 pq.d pq.os)
      rw [← hw''] at I9
      clear hw''
      go_wp2
      go_ret
      exact ⟨rfl, I9.below⟩
    · have hLT := HLT.out
      have HLab : Hid (∀ w, Calls Try.prog 13 #[digV a, digV b] w fun e w' => e = .returned (.bool true) ∧ Below w.heap.size w w') := Lib.hid (by rw [← hl_]; exact HLa.out)
      have HLba : Hid (∀ w, Calls Try.prog 13 #[digV b, digV a] w fun e w' => e = .returned (.bool false) ∧ Below w.heap.size w w') := Lib.hid (by rw [← hm_]; exact HMa.out)
      rw [hl_] at hLT
      clear hl_ hm_
      have I := I8
      refine wp_region_quiet_below (by kernel_rfl) (by kernel_rfl) ?_
      refine wpQuiet_load_rowG (by kernel_rfl) 24 (.tmp 3) rfl (w.heap.size) rfl 24 (cells8 a).toArray (0, 0) (.array 32 5) (by rintro _ ⟨k, rfl⟩; exact (I.keepB (below_regrown w8 k.d k.os)).a) und24 rfl (digV_size _ ha) (v := digV a) (digV_agg _) ?_
      refine wpQuiet_load_rowG (by kernel_rfl) 24 (.tmp 4) rfl (w.heap.size + 1) rfl 24 (cells8 b).toArray (0, 0) (.array 32 5) (by rintro _ ⟨k, rfl⟩; exact (I.keepB (below_regrown w8 k.d k.os)).b) und24 rfl (digV_size _ hb) (v := digV b) (digV_agg _) ?_
      quiet_step ((go_at_call 13; exact Calls.regrown_of (HLab.out _)))
      quiet_step (fail)
      quiet_step (fail)
      quiet_step (fail)
      quiet_step (fail)
      quiet_step (fail)
      refine wpQuiet_load_rowG (by kernel_rfl) 24 (.tmp 3) rfl (w.heap.size) rfl 24 (cells8 a).toArray (0, 0) (.array 32 5) (by rintro _ ⟨k, rfl⟩; exact (I.keepB (below_regrown w8 k.d k.os)).a) und24 rfl (digV_size _ ha) (v := digV a) (digV_agg _) ?_
      refine wpQuiet_load_rowG (by kernel_rfl) 24 (.tmp 4) rfl (w.heap.size + 1) rfl 24 (cells8 b).toArray (0, 0) (.array 32 5) (by rintro _ ⟨k, rfl⟩; exact (I.keepB (below_regrown w8 k.d k.os)).b) und24 rfl (digV_size _ hb) (v := digV b) (digV_agg _) ?_
      quiet_step (fail)
      refine wpQuiet_load_rowG (by kernel_rfl) 24 (.tmp 3) rfl (w.heap.size) rfl 24 (cells8 a).toArray (0, 0) (.array 32 5) (by rintro _ ⟨k, rfl⟩; exact (I.keepB (below_regrown w8 k.d k.os)).a) und24 rfl (digV_size _ ha) (v := digV a) (digV_agg _) ?_
      refine wpQuiet_load_rowG (by kernel_rfl) 24 (.tmp 4) rfl (w.heap.size + 1) rfl 24 (cells8 b).toArray (0, 0) (.array 32 5) (by rintro _ ⟨k, rfl⟩; exact (I.keepB (below_regrown w8 k.d k.os)).b) und24 rfl (digV_size _ hb) (v := digV b) (digV_agg _) ?_
      quiet_step ((go_at_call 13; exact Calls.regrown_of (HLab.out _)))
      quiet_step (fail)
      quiet_step (fail)
      refine wpQuiet_skip (by kernel_rfl) ?_
      refine wpQuiet_skip (by kernel_rfl) ?_
      refine wpQuiet_skip (by kernel_rfl) ?_
      refine wpQuiet_skip (by kernel_rfl) ?_
      quiet_step (fail)
      quiet_step (fail)
      quiet_step (fail)
      quiet_step (fail)
      quiet_step (fail)
      quiet_step (fail)
      refine wpQuiet_load_rowG (by kernel_rfl) 24 (.tmp 3) rfl (w.heap.size) rfl 24 (cells8 a).toArray (0, 0) (.array 32 5) (by rintro _ ⟨k, rfl⟩; exact (I.keepB (below_regrown w8 k.d k.os)).a) und24 rfl (digV_size _ ha) (v := digV a) (digV_agg _) ?_
      quiet_step ((go_at_call 11; exact Calls.regrown_of (HSa.out _)))
      quiet_step (fail)
      quiet_step (fail)
      quiet_step (fail)
      quiet_step ((go_at_call 6; exact Calls.regrown_of (HN.out _)))
      quiet_step (fail)
      quiet_step (fail)
      refine wpQuiet_nil ?_
      intro w9 hw'
      obtain ⟨pq, hw''⟩ := hw'
      have I9 := I.keepB (below_regrown w8 pq.d pq.os)
      rw [← hw''] at I9
      clear hw''
      go_wp2
      go_ret
      exact ⟨rfl, I9.below⟩
    · have hLT := HLT.out
      have HLab : Hid (∀ w, Calls Try.prog 13 #[digV a, digV b] w fun e w' => e = .returned (.bool false) ∧ Below w.heap.size w w') := Lib.hid (by rw [← hl_]; exact HLa.out)
      have HLba : Hid (∀ w, Calls Try.prog 13 #[digV b, digV a] w fun e w' => e = .returned (.bool true) ∧ Below w.heap.size w w') := Lib.hid (by rw [← hm_]; exact HMa.out)
      rw [hl_] at hLT
      clear hl_ hm_
      have I := I8
      refine wp_region_quiet_below (by kernel_rfl) (by kernel_rfl) ?_
      refine wpQuiet_load_rowG (by kernel_rfl) 24 (.tmp 3) rfl (w.heap.size) rfl 24 (cells8 a).toArray (0, 0) (.array 32 5) (by rintro _ ⟨k, rfl⟩; exact (I.keepB (below_regrown w8 k.d k.os)).a) und24 rfl (digV_size _ ha) (v := digV a) (digV_agg _) ?_
      refine wpQuiet_load_rowG (by kernel_rfl) 24 (.tmp 4) rfl (w.heap.size + 1) rfl 24 (cells8 b).toArray (0, 0) (.array 32 5) (by rintro _ ⟨k, rfl⟩; exact (I.keepB (below_regrown w8 k.d k.os)).b) und24 rfl (digV_size _ hb) (v := digV b) (digV_agg _) ?_
      quiet_step ((go_at_call 13; exact Calls.regrown_of (HLab.out _)))
      quiet_step (fail)
      quiet_step (fail)
      quiet_step (fail)
      quiet_step (fail)
      quiet_step (fail)
      refine wpQuiet_load_rowG (by kernel_rfl) 24 (.tmp 3) rfl (w.heap.size) rfl 24 (cells8 a).toArray (0, 0) (.array 32 5) (by rintro _ ⟨k, rfl⟩; exact (I.keepB (below_regrown w8 k.d k.os)).a) und24 rfl (digV_size _ ha) (v := digV a) (digV_agg _) ?_
      refine wpQuiet_load_rowG (by kernel_rfl) 24 (.tmp 4) rfl (w.heap.size + 1) rfl 24 (cells8 b).toArray (0, 0) (.array 32 5) (by rintro _ ⟨k, rfl⟩; exact (I.keepB (below_regrown w8 k.d k.os)).b) und24 rfl (digV_size _ hb) (v := digV b) (digV_agg _) ?_
      quiet_step (fail)
      refine wpQuiet_load_rowG (by kernel_rfl) 24 (.tmp 3) rfl (w.heap.size) rfl 24 (cells8 a).toArray (0, 0) (.array 32 5) (by rintro _ ⟨k, rfl⟩; exact (I.keepB (below_regrown w8 k.d k.os)).a) und24 rfl (digV_size _ ha) (v := digV a) (digV_agg _) ?_
      refine wpQuiet_load_rowG (by kernel_rfl) 24 (.tmp 4) rfl (w.heap.size + 1) rfl 24 (cells8 b).toArray (0, 0) (.array 32 5) (by rintro _ ⟨k, rfl⟩; exact (I.keepB (below_regrown w8 k.d k.os)).b) und24 rfl (digV_size _ hb) (v := digV b) (digV_agg _) ?_
      quiet_step ((go_at_call 13; exact Calls.regrown_of (HLab.out _)))
      quiet_step (fail)
      quiet_step (fail)
      refine wpQuiet_load_rowG (by kernel_rfl) 24 (.tmp 4) rfl (w.heap.size + 1) rfl 24 (cells8 b).toArray (0, 0) (.array 32 5) (by rintro _ ⟨k, rfl⟩; exact (I.keepB (below_regrown w8 k.d k.os)).b) und24 rfl (digV_size _ hb) (v := digV b) (digV_agg _) ?_
      refine wpQuiet_load_rowG (by kernel_rfl) 24 (.tmp 3) rfl (w.heap.size) rfl 24 (cells8 a).toArray (0, 0) (.array 32 5) (by rintro _ ⟨k, rfl⟩; exact (I.keepB (below_regrown w8 k.d k.os)).a) und24 rfl (digV_size _ ha) (v := digV a) (digV_agg _) ?_
      quiet_step ((go_at_call 13; exact Calls.regrown_of (HLba.out _)))
      quiet_step (fail)
      quiet_step (fail)
      quiet_step (fail)
      quiet_step (fail)
      quiet_step (fail)
      quiet_step (fail)
      quiet_step (fail)
      refine wpQuiet_load_rowG (by kernel_rfl) 24 (.tmp 3) rfl (w.heap.size) rfl 24 (cells8 a).toArray (0, 0) (.array 32 5) (by rintro _ ⟨k, rfl⟩; exact (I.keepB (below_regrown w8 k.d k.os)).a) und24 rfl (digV_size _ ha) (v := digV a) (digV_agg _) ?_
      quiet_step ((go_at_call 11; exact Calls.regrown_of (HSa.out _)))
      quiet_step (fail)
      quiet_step (fail)
      quiet_step (fail)
      quiet_step ((go_at_call 6; exact Calls.regrown_of (HN.out _)))
      quiet_step (fail)
      quiet_step (fail)
      refine wpQuiet_nil ?_
      intro w9 hw'
      obtain ⟨pq, hw''⟩ := hw'
      have I9 := I.keepB (below_regrown w8 pq.d pq.os)
      rw [← hw''] at I9
      clear hw''
      go_wp2
      go_ret
      exact ⟨rfl, I9.below⟩
end Go.Proofs.Ytegjphfkkafomaa.Dg
