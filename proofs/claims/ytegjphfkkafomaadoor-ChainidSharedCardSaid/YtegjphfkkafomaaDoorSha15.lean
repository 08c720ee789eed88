/- The chapter's examples: the walk. -/
import Derived.Test.YtegjphfkkafomaaDoorSha14
namespace Go.Proofs.YtegjphfkkafomaaDoor.Sha
open Go.RowKit Go.Proofs Go.Proofs.YtegjphfkkafomaaDoor.Q Go.Proofs.YtegjphfkkafomaaDoorW.PrintWords Go.Proofs.YtegjphfkkafomaaDoorW.PrintLast Go.Proofs.YtegjphfkkafomaaDoorW.PrintMore

/-- A whole array loaded, in a region that draws, guarded or not. -/
theorem wpQuiet_load_rowG {P : Program} {ops : Array Oper} {C : World → Prop} {Q : Act → Prop} {a : Act} {o : Oper} {rest : List Oper} (hgd : Region.wanted o (yielded ops a.tmps) = true) (ty : TypeId) (x : Operand) (ho : o.op = .load ty x)
    (g : Nat) (hx : a.eval x = .pointer (some ⟨g, 0, none⟩)) (t : TypeId) (cs : Array Value) (fr : Nat × Nat) (d : TypeDesc) (hC : ∀ w, C w → w.heap[g]? = some (.cells cs t fr))
    (hu : P.underlying ty = some d) (hd : (match d with | .struct _ | .array _ _ => true | _ => false) = true) (hi : (P.info? ty).map (·.size) = some cs.size)
    {v : Value} (hv : v = .agg cs) (h : wpQuiet P ops C Q rest (a.put o.dst v)) : wpQuiet P ops C Q (o :: rest) a := by
  subst hv
  unfold wpQuiet
  rw [if_pos hgd]
  refine ⟨.agg cs, fun w hw => ?_, h⟩
  unfold Oper.quietAt execOp
  simp only [ho, hx, Instr.loadAt, Instr.sureAddr, Sem.run_bind, Sem.run_pure, Result.andThen_ok, run_loadVar_row w g t ty cs fr d (hC w hw) hu hd hi]
  exact ⟨rfl, rfl⟩
def lA : ByteArray := ⟨#[97]⟩
def lBC : ByteArray := ⟨#[98, 99]⟩
theorem write_a (w : World) (p : Nat) (v : Value) (hL : Laid w) (H : HAt w p v [] 0) : Calls Tryd.prog 14 #[.pointer (some ⟨p, 0, none⟩), .string { data := #[97] }] w fun e w' => e = .returned (.int .i64 1) ∧ ∃ u, HAt w' p u [97] 1 ∧ (∀ g, u.ownBlock = some g → w.heap.size ≤ g) ∧ Only p v w w' :=
  write_calls w p v [] 0 ⟨#[97]⟩ hL H (by decide) (by decide)
theorem write_bc (w : World) (p : Nat) (v : Value) (hL : Laid w) (H : HAt w p v [97] 1) : Calls Tryd.prog 14 #[.pointer (some ⟨p, 0, none⟩), .string { data := #[98, 99] }] w fun e w' => e = .returned (.int .i64 2) ∧ ∃ u, HAt w' p u [97, 98, 99] 3 ∧ (∀ g, u.ownBlock = some g → w.heap.size ≤ g) ∧ Only p v w w' :=
  write_calls w p v [97] 1 ⟨#[98, 99]⟩ hL H (by decide) (by decide)
theorem of_empty (w : World) (hL : Laid w) : Calls Tryd.prog 10 #[.string { data := #[] }] w fun e w' => e = .returned (digV noneD) ∧ Below w.heap.size w w' := by
  have h := of_calls w ⟨#[]⟩ hL (by decide)
  rwa [show sumN (byN ⟨#[]⟩) (⟨#[]⟩ : ByteArray).size = noneD from sum_empty] at h
theorem sum_abc_calls (w : World) (p : Nat) (v : Value) (hL : Laid w) (H : HAt w p v [97, 98, 99] 3) :
    Calls Tryd.prog 15 #[.pointer (some ⟨p, 0, none⟩)] w fun e w' => e = .returned (digV abcD) ∧ Below w.heap.size w w' := by
  have h := sum_calls w p v [97, 98, 99] 3 hL H (by decide)
  rwa [sum_abc] at h
theorem size_belowC (w : World) (p : Nat) (v : Value) (l : List Nat) (z : Int) (H : HAt w p v l z) :
    Calls Tryd.prog 16 #[.pointer (some ⟨p, 0, none⟩)] w fun e w' => e = .returned (.int .i64 z) ∧ Below w.heap.size w w' :=
  (size_calls w p v l z H).mono fun _ _ ⟨h1, h2⟩ => ⟨h1, h2 ▸ Below.refl _ _⟩
theorem Laid.regrown {w : World} (h : Laid w) (d : Nat) (os : Array Obj) : Laid (Go.Sort.grow (redrawn w d) os) := h.of_below (below_regrown w d os) h.lt
theorem HAt.regrown {w : World} {p : Nat} {v : Value} {l : List Nat} {z : Int} (h : HAt w p v l z) (d : Nat) (os : Array Obj) : HAt (Go.Sort.grow (redrawn w d) os) p v l z := h.keepB (below_regrown w d os)
theorem noneD_lt : ∀ x ∈ noneD, x < 256 := by decide
theorem abcD_lt : ∀ x ∈ abcD, x < 256 := by decide
theorem there_new {w : World} {g : Nat} {cs ds : Array Value} {t : TypeId} (h : w.heap[g]? = some (.cells cs t (0, 0))) (hs : cs.size = ds.size) : w.there g 0 ds.size := there_old h hs

/-- What stands while the examples are made. -/
structure GI (w : World) (p : Nat) (u : Value) (l : List Nat) (z : Int) (w5 : World) : Prop where
  below : Below w.heap.size w w5
  n : w5.heap[w.heap.size]? = some (.cells (cells8 noneD).toArray 24 (0, 0))
  a : w5.heap[w.heap.size + 1]? = some (.cells (cells8 abcD).toArray 24 (0, 0))
  at' : w.heap.size + 1 < p
  h : HAt w5 p u l z
  fresh : ∀ g, u.ownBlock = some g → w.heap.size + 1 < g
  laid : Laid w5
theorem new_two {w : World} {cs0 cs1 : Array Value} {b : Nat} (hL : Laid w) (hb : b = w.heap.size + 1) (h0 : cs0.size = 32) (h1 : cs1.size = 32) :
    Calls Tryd.prog 12 #[] ((((w.alloc (.cells cs0 24 (0, 0))).setCells w.heap.size 0 (cells8 noneD)).alloc (.cells cs1 24 (0, 0))).setCells b 0 (cells8 abcD)) fun e w2 => e = .returned (.pointer (some ⟨w.heap.size + 1 + 1, 0, none⟩)) ∧ GI w (w.heap.size + 1 + 1) (.slice none 0 0) [] 0 w2 := by
  subst hb
  have hn0 : ((w.alloc (.cells cs0 24 (0, 0))).setCells w.heap.size 0 (cells8 noneD)).heap[w.heap.size]? = some (.cells (cells8 noneD).toArray 24 (0, 0)) := setCells_whole _ _ _ (alloc_new _ _ _ rfl) h0
  have hB0 : Below w.heap.size w ((w.alloc (.cells cs0 24 (0, 0))).setCells w.heap.size 0 (cells8 noneD)) := setCells_below _ _ _ _ _ (Nat.le_refl _) ((Below.refl _ _).alloc (Nat.le_refl _) _)
  have hs0 : ((w.alloc (.cells cs0 24 (0, 0))).setCells w.heap.size 0 (cells8 noneD)).heap.size = w.heap.size + 1 := by rw [setCells_size, new_size]
  generalize (w.alloc (.cells cs0 24 (0, 0))).setCells w.heap.size 0 (cells8 noneD) = wa at hn0 hB0 hs0 ⊢
  have hn1 : ((wa.alloc (.cells cs1 24 (0, 0))).setCells (w.heap.size + 1) 0 (cells8 abcD)).heap[w.heap.size + 1]? = some (.cells (cells8 abcD).toArray 24 (0, 0)) := setCells_whole _ _ _ (alloc_new _ _ _ hs0.symm) h1
  have hB1 : Below (w.heap.size + 1) wa ((wa.alloc (.cells cs1 24 (0, 0))).setCells (w.heap.size + 1) 0 (cells8 abcD)) := setCells_below _ _ _ _ _ (Nat.le_refl _) ((Below.refl _ _).alloc (by omega) _)
  have hs1 : ((wa.alloc (.cells cs1 24 (0, 0))).setCells (w.heap.size + 1) 0 (cells8 abcD)).heap.size = w.heap.size + 1 + 1 := by rw [setCells_size, new_size, hs0]
  generalize (wa.alloc (.cells cs1 24 (0, 0))).setCells (w.heap.size + 1) 0 (cells8 abcD) = wb at hn1 hB1 hs1 ⊢
  have hlt := hL.lt
  have hB := hB0.trans (hB1.mono (Nat.le_succ _))
  refine (new_calls wb (hL.of_below hB hlt)).mono ?_
  rintro e w2 ⟨rfl, H2, hB2⟩
  rw [hs1] at H2 hB2 ⊢
  exact ⟨rfl, hB.trans (hB2.mono (by omega)), by rw [hB2.block _ (by omega), hB1.block _ (by omega)]; exact hn0, by rw [hB2.block _ (by omega)]; exact hn1, Nat.lt_succ_self _, H2, fun g hg => by simp [Value.ownBlock] at hg, (hL.of_below hB hlt).of_below hB2 (by omega)⟩
theorem GI.write {w w2 w3 : World} {p : Nat} {v u : Value} {l m : List Nat} {z y : Int} (G : GI w p v l z w2) (hlt : 1 < w.heap.size) (H : HAt w3 p u m y) (hf : ∀ g, u.ownBlock = some g → w2.heap.size ≤ g) (ho : Only p v w2 w3) : GI w p u m y w3 := by
  have hp := G.at'
  have hs := G.below.size
  have hp2 := G.h.lt
  have keep : ∀ k, k < w.heap.size + 1 + 1 → w3.heap[k]? = w2.heap[k]? := fun k hk => ho.block k (by omega) (by omega) (fun e => by have := G.fresh k e; omega)
  exact ⟨G.below.trans (ho.below hs (by omega) (fun g hg => by have := G.fresh g hg; omega)), by rw [keep _ (by omega)]; exact G.n, by rw [keep _ (by omega)]; exact G.a, hp, H, fun g hg => by have := hf g hg; omega, G.laid.of (keep 0 (by omega)) (keep 1 (by omega))⟩
theorem GI.regrown {w w2 : World} {p : Nat} {v : Value} {l : List Nat} {z : Int} (G : GI w p v l z w2) (d : Nat) (os : Array Obj) : GI w p v l z (Go.Sort.grow (redrawn w2 d) os) := by
  have hB := below_regrown w2 d os
  have hp := G.at'
  have hp2 := G.h.lt
  exact ⟨G.below.trans (hB.mono G.below.size), by rw [hB.block _ (by omega)]; exact G.n, by rw [hB.block _ (by omega)]; exact G.a, hp, G.h.keepB hB, G.fresh, G.laid.of_below hB (by have := G.laid.lt; omega)⟩
theorem nVal_eq : Value.agg #[.int .u8 227, .int .u8 176, .int .u8 196, .int .u8 66, .int .u8 152, .int .u8 252, .int .u8 28, .int .u8 20, .int .u8 154, .int .u8 251, .int .u8 244, .int .u8 200, .int .u8 153, .int .u8 111, .int .u8 185, .int .u8 36, .int .u8 39, .int .u8 174, .int .u8 65, .int .u8 228, .int .u8 100, .int .u8 155, .int .u8 147, .int .u8 76, .int .u8 164, .int .u8 149, .int .u8 153, .int .u8 27, .int .u8 120, .int .u8 82, .int .u8 184, .int .u8 85] = digV noneD := by kernel_rfl
theorem aVal_eq : Value.agg #[.int .u8 186, .int .u8 120, .int .u8 22, .int .u8 191, .int .u8 143, .int .u8 1, .int .u8 207, .int .u8 234, .int .u8 65, .int .u8 65, .int .u8 64, .int .u8 222, .int .u8 93, .int .u8 174, .int .u8 34, .int .u8 35, .int .u8 176, .int .u8 3, .int .u8 97, .int .u8 163, .int .u8 150, .int .u8 23, .int .u8 122, .int .u8 156, .int .u8 180, .int .u8 16, .int .u8 255, .int .u8 97, .int .u8 242, .int .u8 0, .int .u8 21, .int .u8 173] = digV abcD := by kernel_rfl

set_option maxHeartbeats 1000000 in
set_option maxRecDepth 100000 in
theorem hashed_calls (w : World) (hL : Laid w) : Calls Tryd.prog 9 #[] w fun e w' => e = .returned (.bool true) ∧ Below w.heap.size w w' := by
  have hlt := hL.lt
  have HL := Lib.hid hL
  clear hL
  have H1 := Lib.hid (show ∀ w, (Go.binOp .eql 24 (digV noneD) (digV noneD)).run Tryd.prog w = .ok (.bool true) w from eql_dig noneD noneD rfl rfl noneD_lt noneD_lt)
  have H2 := Lib.hid (show ∀ w, (Go.binOp .eql 24 (digV abcD) (digV abcD)).run Tryd.prog w = .ok (.bool true) w from eql_dig abcD abcD rfl rfl abcD_lt abcD_lt)
  go_enter Tryd.func9, Tryd.ntmps9
  go_wp2_with (first
    | (refine wpList_store_mid ?hg 24 (.tmp 1) (.tmp 6) ?ho w.heap.size 0 (cells8 noneD).toArray ?hx ?hy ?ht ?hi ?h1 ?h; (case ho => exact rfl); (case hg => exact rfl); (case hx => exact rfl); (case hy => kernel_rfl); (case ht => exact there_old (ds := (cells8 noneD).toArray) (alloc_new _ _ _ rfl) (by kernel_rfl)); (case hi => exact digV_size _ rfl); (case h1 => exact all_oneCell_toArray (cells8_one _)); rw [nVal_eq])
    | (apply wpList_store_mid (ty := 24) (x := .tmp 2) (y := .tmp 7) (o := 0) (cells := (cells8 abcD).toArray); (case ho => exact rfl); (case hgd => exact rfl); (case hx => exact rfl); (case hy => kernel_rfl); (case ht => exact there_old (ds := (cells8 abcD).toArray) (alloc_new _ _ _ rfl) (by kernel_rfl)); (case hi => exact digV_size _ rfl); (case h1 => exact all_oneCell_toArray (cells8_one _)); rw [aVal_eq])
    | (go_at_call 12; refine (new_two HL.out (by rw [setCells_size, new_size]) rfl rfl).mono ?_; rintro e w2 ⟨rfl, G2⟩; simp only [setCells_size, new_size])
    | (go_at_call 14; refine (write_a w2 _ _ G2.laid G2.h).mono ?_; rintro e w3 ⟨rfl, u3, H3, hf3, ho3⟩; have G3 := G2.write hlt H3 hf3 ho3; clear H3 hf3 ho3 G2)
    | (go_at_call 14; refine (write_bc w3 _ _ G3.laid G3.h).mono ?_; rintro e w4 ⟨rfl, u4, H4, hf4, ho4⟩; have G4 := G3.write hlt H4 hf4 ho4; clear H4 hf4 ho4 G3))
  have heq1 := H1.out
  have hgd := guard_dig
  have heq2 := H2.out
  refine QT.wp_region_below_tail 22 (by kernel_rfl) (by kernel_rfl) ?_
  simp only [List.take_succ_cons, List.take_zero, List.drop_succ_cons, List.drop_zero]
  quiet_step ((go_at_call 10; exact Calls.regrown_of (of_empty _ (G4.laid.regrown _ _))))
  refine wpQuiet_load_rowG rfl 24 (.tmp 1) rfl w.heap.size rfl 24 (cells8 noneD).toArray (0, 0) (.array 32 5) (by rintro _ ⟨p, rfl⟩; exact (G4.regrown p.d p.os).n) und24 rfl (digV_size _ rfl) (v := digV noneD) rfl ?_
  quiet_step (fail)
  quiet_step (fail)
  quiet_step (fail)
  quiet_step (fail)
  quiet_step (fail)
  quiet_step (fail)
  quiet_step (fail)
  quiet_step (fail)
  quiet_step (fail)
  quiet_step (fail)
  quiet_step (fail)
  quiet_step ((go_at_call 15; exact Calls.regrown_of (sum_abc_calls _ _ _ (G4.laid.regrown _ _) (G4.h.regrown _ _))))
  refine wpQuiet_load_rowG rfl 24 (.tmp 2) rfl (w.heap.size + 1) rfl 24 (cells8 abcD).toArray (0, 0) (.array 32 5) (by rintro _ ⟨p, rfl⟩; exact (G4.regrown p.d p.os).a) und24 rfl (digV_size _ rfl) (v := digV abcD) rfl ?_
  quiet_step (fail)
  quiet_step (fail)
  quiet_step (fail)
  quiet_step (fail)
  quiet_step ((go_at_call 16; exact Calls.regrown_of (size_belowC _ _ _ _ _ (G4.h.regrown _ _))))
  quiet_step (fail)
  quiet_step (fail)
  refine wpQuiet_nil ?_
  intro w5 hw'
  obtain ⟨pq, hw''⟩ := hw'
  have G5 := G4.regrown pq.d pq.os
  rw [← hw''] at G5
  clear hw''
  go_wp2
  go_ret
  exact ⟨rfl, G5.below⟩
end Go.Proofs.YtegjphfkkafomaaDoor.Sha
