/- Al6, RQ, Al7, Al8, Al9, Al10, put together. -/
import Derived.Test.YtidnkckfkgaooaaAl5
import Derived.Deep.Quiet
import Derived.OrdersIn
import Derived.ControlIn
import Derived.RangeFuncCalls
import Derived.RangeFuncWrites
import Derived.RangeFuncBox
import Derived.OwnWalkIn
import Derived.RangeFuncNested
/- The blocks that are found: plain. -/
namespace Go.Proofs.Ytidnkckfkgaooaa.Al
open Go.RowKit Go.Proofs Go.Proofs.Ytidnkckfkgaooaa.Q Go.Proofs.Ytidnkckfkgaooaa.Ext Go.Proofs.Ytidnkckfkgaooaa.Pure Go.Proofs.YtidnkckfkgaooaaW.PrintWords Go.Proofs.YtidnkckfkgaooaaW.PrintLast Go.Proofs.YtidnkckfkgaooaaW.PrintMore

/-- The blocks from one on, so many, that are not in use. -/
def freeFrom (s : ByteArray) : Nat → Nat → List Nat
  | 0, _ => []
  | d + 1, i => if hasB s i = false then i :: freeFrom s d (i + 1) else freeFrom s d (i + 1)
def freeL (s : ByteArray) (N : Nat) : List Nat := freeFrom s N 0
/-- A block behind extents. -/
def stepE (l : List (Int × Int)) (i : Nat) : List (Int × Int) :=
  match l.getLast? with
  | some x => if x.1 + x.2 = (i : Int) then l.dropLast ++ [(x.1, x.2 + 1)] else l ++ [((i : Int), 1)]
  | none => l ++ [((i : Int), 1)]
def packE (l : List Nat) : List (Int × Int) := l.foldl stepE []
theorem packE_snoc (l : List Nat) (i : Nat) : packE (l ++ [i]) = stepE (packE l) i := by
  unfold packE
  rw [List.foldl_append]
  rfl
theorem stepE_new {l : List (Int × Int)} {i : Nat} (h : ∀ x, l.getLast? = some x → x.1 + x.2 ≠ (i : Int)) : stepE l i = l ++ [((i : Int), 1)] := by
  unfold stepE
  split
  · rename_i x hx
    rw [if_neg (h x hx)]
  · rfl
theorem stepE_more (l : List (Int × Int)) (f c : Int) (i : Nat) (h : f + c = (i : Int)) : stepE (l ++ [(f, c)]) i = l ++ [(f, c + 1)] := by
  unfold stepE
  simp [h]
/-- What Find answers. -/
def findE (s : ByteArray) (N n : Nat) : List (Int × Int) :=
  if 0 ≤ runS s 0 (n : Int) ∧ runS s 0 (n : Int) + (n : Int) ≤ (N : Int) then [(runS s 0 (n : Int), (n : Int))]
  else if 8 < (packE ((freeL s N).take n)).length then [] else packE ((freeL s N).take n)
end Go.Proofs.Ytidnkckfkgaooaa.Al
/- A region that draws its order inside a round of a loop over a function: quiet operations, walked as anywhere. -/
namespace Go.Proofs.Ytidnkckfkgaooaa.RQ
open Go Go.RowKit

section
variable {P : Program} {ops : Array Oper} {md : Region.Mode} {C : World → Prop} {n r : Nat}

def notDefer (o : Oper) : Bool := match o.op with | .defer _ => false | _ => true
theorem notDefer_spec {o : Oper} (h : notDefer o = true) : ∀ c, o.op ≠ .defer c := by
  intro c e
  unfold notDefer at h
  rw [e] at h
  cases h
theorem op_of_quiet {o : Oper} {a : Act} {K : Act → Prop} {K' : Act → World → Prop} {Q' : Exit → Act → World → Prop} {w : World} (hd : notDefer o = true) (hw : C w) (h : ∀ a w', C w' → K a → K' a w')
    (hh : o.quiet P a C K) : o.wpIn (Fence.wide.inRound r) n P a w K' Q' := by
  obtain ⟨v, h1, h2⟩ := hh
  have h3 := h1 w hw
  unfold Oper.quietAt at h3
  unfold Oper.wpIn
  refine ⟨fun _ _ => trivial, ?_⟩
  rw [Oper.semAt_eq _ _ _ (notDefer_spec hd)]
  generalize (execOp a.eval o).run P w = q at *
  cases q with
  | ok x w' =>
    cases x <;> simp only [Oper.quietUpon] at h3 <;> simp only [Oper.uponIn]
    case value u =>
      obtain ⟨e1, e2⟩ := h3
      rw [e1, e2]
      exact h _ _ hw h2
    case skip =>
      obtain ⟨e1, e2⟩ := h3
      rw [e1, ← e2]
      exact h _ _ hw h2
    case enter f args =>
      obtain ⟨e1, hc⟩ := h3
      rw [e1]
      show (_ ∧ CallsIn _ _ _ _ _ _ _)
      refine And.intro (fun hx => absurd hx (show ¬ (false = true) by decide)) (CallsIn.inRound r ((callsIn_wide.2 hc).mono ?_))
      rintro e w2 ⟨rfl, hw2⟩
      exact h _ _ hw2 h2
  | halt x w' => simp only [Oper.quietUpon] at h3
theorem opAt_of_quiet {i : Nat} {a : Act} {K : Act → Prop} {K' : Act → World → Prop} {Q' : Exit → Act → World → Prop} {w : World} (hd : ∀ (j : Nat) (o : Oper), ops[j]? = some o → notDefer o = true) (hC : C w) (h : ∀ a w', C w' → K a → K' a w')
    (hh : qOp P ops C i K a) : wpOpIn (Fence.wide.inRound r) n P ops Q' i K' a w := by
  unfold qOp at hh
  unfold wpOpIn
  split
  · rename_i ho
    simp only [ho] at hh
    exact h _ _ hC hh
  · rename_i o ho
    simp only [ho] at hh
    split
    · rename_i hw
      simp only [hw, if_true] at hh
      exact op_of_quiet (hd _ _ ho) hC h hh
    · rename_i hw
      simp only [hw] at hh
      exact ⟨fun _ _ => trivial, h _ _ hC hh⟩
theorem any_of_quiet {Q : Act → Prop} {Q' : Exit → Act → World → Prop} (hd : ∀ (j : Nat) (o : Oper), ops[j]? = some o → notDefer o = true) (hQ : ∀ a w, C w → Q a → Q' .normal a w) : ∀ (fuel : Nat) (listed : Array Bool) (a : Act) (w : World), C w →
    wpAnyQ P md ops C Q fuel listed a → wpAnyIn (Fence.wide.inRound r) n P md ops Q' fuel listed a w
  | 0, _, _, _, hw, h => ⟨h.1, hQ _ _ hw h.2⟩
  | fuel + 1, _, _, _, hw, h => ⟨fun h0 => hQ _ _ hw (h.1 h0), fun i hi => opAt_of_quiet hd hw (fun a' w' hw' => any_of_quiet hd hQ fuel _ a' w' hw') (h.2 i hi)⟩
theorem region_quiet {id : Nat} {Q : Exit → Act → World → Prop} {a : Act} {w : World} (hm : P.follows .mixedOrders = true) (hB : Region.lexB .any ops = true) (hd : ops.toList.all notDefer = true) (hC : C { w with drawn := w.drawn + 1 })
    (h : wpQuiet P ops C (fun a' => ∀ w', C w' → Q .normal a' w') ops.toList a) : (Code.region id ops true).wpIn (Fence.wide.inRound r) n P Q a w := by
  simp only [Region.lexB, Bool.and_eq_true] at hB
  have hd' : ∀ (j : Nat) (o : Oper), ops[j]? = some o → notDefer o = true := fun j o ho => List.all_eq_true.1 hd o (by
    rw [← Array.getElem?_toList] at ho
    exact List.mem_of_getElem? ho)
  refine wpIn_region_any hm (any_of_quiet (Q := fun a' => ∀ w', C w' → Q .normal a' w') hd' (fun _ w' hw' h => h w' hw') _ _ _ _ hC ?_)
  have := wpAnyQ_lex (C := C) (md := .any) hB.1 ops.toList 0 (Array.replicate ops.size false) a (by simp) (by simpa using hB.2) h
  simpa using this
theorem region_quiet_lit {id : Nat} {Q : Exit → Act → World → Prop} {a : Act} {w : World} {l : List Oper} (hm : P.follows .mixedOrders = true) (hB : Region.lexB .any l.toArray = true) (hd : l.all notDefer = true)
    (h : wpQuiet P l.toArray (fun w' => ∃ n, w' = w.drewN n) (fun a' => ∀ w', (∃ n, w' = w.drewN n) → Q .normal a' w') l a) : (Code.region id l.toArray true).wpIn (Fence.wide.inRound r) n P Q a w :=
  region_quiet (C := fun w' => ∃ n, w' = w.drewN n) hm hB (by simpa using hd) ⟨1, rfl⟩ (by simpa using h)
end
end Go.Proofs.Ytidnkckfkgaooaa.RQ
/- The blocks that are not in use, one by one: the iterator's walk. -/
namespace Go.Proofs.Ytidnkckfkgaooaa.Al
open Go.RowKit Go.Shelf Go.Proofs Go.Proofs.Ytidnkckfkgaooaa.Ext Go.Proofs.Ytidnkckfkgaooaa.Pure Go.Proofs.YtidnkckfkgaooaaW.PrintWords Go.Proofs.YtidnkckfkgaooaaW.PrintMore
attribute [local go_sem] Oper.semAt_some

abbrev encN (i : Nat) : Array Value := #[.int .i64 (i : Int)]
/-- The map and the box of it stay. -/
def KpM (p Bm : Nat) (W W' : World) : Prop := ∀ k, (k = p ∨ k = Bm) → ∀ cs t fr, W.heap[k]? = some (.cells cs t fr) → W'.heap[k]? = some (.cells cs t fr)
theorem KpM.refl (p Bm : Nat) (W : World) : KpM p Bm W W := fun _ _ _ _ _ h => h
theorem KpM.trans {p Bm : Nat} {A B C : World} (h : KpM p Bm A B) (k : KpM p Bm B C) : KpM p Bm A C := fun i hi cs t fr hc => k i hi cs t fr (h i hi cs t fr hc)
theorem freeFrom_split (s : ByteArray) : ∀ (d i : Nat), freeFrom s (d + 1) i = (if hasB s i = false then [i] else []) ++ freeFrom s d (i + 1) := by
  intro d i
  show (if hasB s i = false then i :: freeFrom s d (i + 1) else freeFrom s d (i + 1)) = _
  split <;> rfl
set_option maxRecDepth 100000 in
set_option maxHeartbeats 2000000 in
theorem free1_in (n : Nat) (hn : 1 ≤ n) (l p Bm N : Nat) (s : ByteArray) (hs : s.size ≤ 140737488351232) (hN : N ≤ 4096) (J Jx : List Nat → World → Prop)
    (hY : ∀ pre x W, x < N → J pre W → pre.length < (freeL s N).length → YieldAt Fence.wide (n - 1) Try.prog l (encN x) W fun e W' =>
      (e = .returned (.bool true) ∧ J (pre ++ [x]) W' ∧ KpM p Bm W W') ∨ (e = .returned (.bool false) ∧ Jx (pre ++ [x]) W'))
    (W : World) (hm : MapAt W p N s) (hb : W.heap[Bm]? = some (.cells #[.pointer (some ⟨p, 0, none⟩)] 35 (0, 0))) (h0 : J [] W) :
    CallsIn Fence.wide n Try.prog 51 #[.func (.yield l) #[] #[], .pointer (some ⟨Bm, 0, none⟩)] W fun e W' => (∃ v, e = .returned v) ∧
      ((∃ ys, ys = freeL s N ∧ J ys W') ∨ (∃ pre, pre <+: freeL s N ∧ Jx pre W')) := by
  refine callsIn_of_wp Try.func51 rfl trivial ?_ rfl
  simp only [Try.ntmps51, List.size_toArray, List.length_cons, List.length_nil, Nat.reduceAdd, Nat.reduceSub, Array.replicate_succ, Array.replicate_zero, List.push_toArray, List.append_toArray, List.nil_append, List.cons_append]
  have c0 := hm.c0
  have cb : W.cell? ⟨Bm, 0, none⟩ = some (.pointer (some ⟨p, 0, none⟩)) := by rw [block_cell hb]; rfl
  gi_wp2
  clear c0 cb
  gi_loopw [8] (fun i wr => ∃ (pre : List Nat) (k : Nat), i = .int .i64 (k : Int) ∧ k ≤ N ∧ Hid (freeL s N = pre ++ freeFrom s (N - k) k) ∧ J pre wr ∧ KpM p Bm W wr) (fun i _ => N - (intOf i).toNat)
  case atStart => exact ⟨[], 0, rfl, by omega, Lib.hid rfl, h0, KpM.refl _ _ _⟩
  case round =>
    obtain ⟨pre, k, rfl, hk, Hfr, hJ, hK⟩ := hrel
    have hm2 : MapAt wr p N s := hK p (.inl rfl) _ _ _ hm
    have hb2 := hK Bm (.inr rfl) _ _ _ hb
    have c1 := hm2.c1
    have cb : wr.cell? ⟨Bm, 0, none⟩ = some (.pointer (some ⟨p, 0, none⟩)) := by rw [block_cell hb2]; rfl
    by_cases hlt : k < N
    · have d1 : (k : Int) < (N : Int) := by omega
      have HH := fun w => has_calls s k w hs (by omega)
      have hsp : freeL s N = pre ++ ((if hasB s k = false then [k] else []) ++ freeFrom s (N - (k + 1)) (k + 1)) := by
        rw [Hfr.out, ← freeFrom_split, show N - (k + 1) + 1 = N - k from by omega]
      cases hc : hasB s k with
      | true =>
        simp only [hc] at HH
        rw [hc, if_neg (by decide), List.nil_append] at hsp
        have Hsp := Lib.hid hsp
        clear hsp hc
        gi_wp2_with (refine ⟨trivial, ?_⟩; gi_at_call 17; refine (callsIn_wide.2 (HH _)).mono ?_; rintro e w' ⟨rfl, rfl⟩)
        refine ⟨fun _ h => (by cases h), ?_⟩
        gi_wp2
        go_roundw
        case rel => exact ⟨pre, k + 1, by go_num, by omega, Hsp, hJ, hK⟩
        case measure => simp [intOf]; omega
      | false =>
        simp only [hc] at HH
        rw [hc, if_pos rfl, ← List.append_assoc] at hsp
        have hlen : pre.length < (freeL s N).length := by rw [hsp]; simp
        obtain ⟨fn, tmps, assign, body, hy, hR⟩ := hY pre k wr hlt hJ hlen
        dsimp only [encN] at hy
        have Hsp := Lib.hid hsp
        clear hsp hc hlen
        gi_wp2_with (refine ⟨trivial, ?_⟩; gi_at_call 17; refine (callsIn_wide.2 (HH _)).mono ?_; rintro e w' ⟨rfl, rfl⟩)
        refine hR.mono ?_
        rintro e W3 (⟨rfl, hJ3, hk3⟩ | ⟨rfl, hJx3⟩)
        · gi_wp2
          go_roundw
          case rel => exact ⟨pre ++ [k], k + 1, by go_num, by omega, Hsp, hJ3, hK.trans hk3⟩
          case measure => simp [intOf]; omega
        · gi_wp2
          refine bodyPost_ret (results_none rfl _ _ _) rfl ?_
          exact ⟨⟨_, rfl⟩, .inr ⟨pre ++ [k], ⟨_, Hsp.out.symm⟩, hJx3⟩⟩
    · have d1 : ¬ (k : Int) < (N : Int) := by omega
      have Hend := Lib.hid (show pre = freeL s N from by
        have := Hfr.out
        rw [show N - k = 0 from by omega] at this
        rw [this]
        show pre = pre ++ []
        rw [List.append_nil])
      gi_wp2
      go_end0
      exact ⟨⟨_, rfl⟩, .inl (by have h := hJ; rw [Hend.out] at h; exact h)⟩
end Go.Proofs.Ytidnkckfkgaooaa.Al
/- The blocks that are found: the iterator made, and what it tells. -/
namespace Go.Proofs.Ytidnkckfkgaooaa.Al
open Go.RowKit Go.Shelf Go.Proofs Go.Proofs.Ytidnkckfkgaooaa.Ext Go.Proofs.Ytidnkckfkgaooaa.Pure Go.Proofs.YtidnkckfkgaooaaW.PrintWords Go.Proofs.YtidnkckfkgaooaaW.PrintMore
attribute [local go_sem] Oper.semAt_some

theorem free_in (n p : Nat) (w : World) :
    CallsIn Fence.wide n Try.prog 50 #[.pointer (some ⟨p, 0, none⟩)] w fun e w' => e = .returned (.func (.func 51) #[] #[.pointer (some ⟨w.heap.size, 0, none⟩)]) ∧ w' = w.alloc (.cells #[.pointer (some ⟨p, 0, none⟩)] 35) := by
  refine callsIn_of_wp Try.func50 rfl trivial ?_ rfl
  simp only [Try.ntmps50, List.size_toArray, List.length_cons, List.length_nil, Nat.reduceAdd, Nat.reduceSub, Array.replicate_succ, Array.replicate_zero, List.push_toArray, List.append_toArray, List.nil_append, List.cons_append]
  gi_wp2
  go_ret
  exact ⟨rfl, rfl⟩
/-- An element as the loop's body gets it: a block of the map. -/
abbrev encF {N : Nat} (i : Fin N) : Array Value := #[.int .i64 (i.val : Int)]
theorem free_stops (n : Nat) (hn : 1 ≤ n) (p Bm N : Nat) (s : ByteArray) (hs : s.size ≤ 140737488351232) (hN : N ≤ 4096) (w : World) (hm : MapAt w p N s) (hb : w.heap[Bm]? = some (.cells #[.pointer (some ⟨p, 0, none⟩)] 35 (0, 0))) :
    SeqStopsK Fence.wide n Try.prog 51 #[.pointer (some ⟨Bm, 0, none⟩)] (encF (N := N)) (KpM p Bm) (fun ys => ys.map (·.val) = freeL s N) (fun pre => pre.map (·.val) <+: freeL s N) (freeL s N).length w := fun l J Jx W hW _ _ hY h0 => by
  refine (free1_in n hn l p Bm N s hs hN (fun pre W => ∃ q : List (Fin N), q.map (·.val) = pre ∧ J q W) (fun pre W => ∃ q : List (Fin N), q.map (·.val) = pre ∧ Jx q W) ?_ W (hm.keepB hW) ((hW.block _ (lt_of_block hb)).trans hb) ⟨[], rfl, h0⟩).mono ?_
  · rintro pre x W1 hx ⟨q, rfl, hq⟩ hl
    obtain ⟨fn, tmps, assign, body, hy, hR⟩ := hY q ⟨x, hx⟩ W1 hq (by rw [List.length_map] at hl; exact hl)
    refine ⟨fn, tmps, assign, body, hy, hR.mono ?_⟩
    rintro e W2 (⟨he, hJ, hK⟩ | ⟨he, hJ⟩)
    · exact .inl ⟨he, ⟨q ++ [⟨x, hx⟩], by simp, hJ⟩, hK⟩
    · exact .inr ⟨he, ⟨q ++ [⟨x, hx⟩], by simp, hJ⟩⟩
  · rintro e W2 ⟨hv, ⟨ys, h1, q, h2, hJ⟩ | ⟨pre, h1, q, h2, hJ⟩⟩
    · exact ⟨hv, .inl ⟨q, h2.trans h1, hJ⟩⟩
    · exact ⟨hv, .inr ⟨q, (show q.map (·.val) <+: freeL s N from h2 ▸ h1), hJ⟩⟩
theorem KpM.putObj {p Bm : Nat} (W : World) (l : Nat) (o o' : Obj) (hl : W.heap[l]? = some o) (ho : o.isCells = false) : KpM p Bm W (W.putObj l o') := fun k _ cs t fr hc => by
  by_cases e : k = l
  · subst e
    rw [hc] at hl
    obtain rfl := Option.some.inj hl
    cases ho
  · rw [World.putObj_heap_other e]
    exact hc
end Go.Proofs.Ytidnkckfkgaooaa.Al
/- The blocks that are found: the walk where so many stand together. -/
namespace Go.Proofs.Ytidnkckfkgaooaa.Al
open Go.RowKit Go.Shelf Go.Proofs Go.Proofs.Ytidnkckfkgaooaa.Ext Go.Proofs.Ytidnkckfkgaooaa.Pure Go.Proofs.YtidnkckfkgaooaaW.PrintWords Go.Proofs.YtidnkckfkgaooaaW.PrintLast Go.Proofs.YtidnkckfkgaooaaW.PrintMore

/-- What Find answers: a list of its own. -/
def FEnd (w : World) (L : List (Int × Int)) (e : Ending) (w' : World) : Prop := ∃ v, e = .returned v ∧ ExRow w' v L ∧ (∀ a l c, v = .slice (some a) l c → 0 < l → w.heap.size ≤ a.block) ∧ Below w.heap.size w w'
theorem ten_cells (w : World) (i : Int) : (w.alloc (.cells #[.int .i64 i] 3)).cell? ⟨w.heap.size, 0, none⟩ = some (.int .i64 i) := by
  rw [block_cell (alloc_new w _ _ rfl)]
  rfl
attribute [local irreducible] Go.wpQuiet runS
set_option maxRecDepth 100000 in
set_option maxHeartbeats 2000000 in
theorem find_run (w : World) (p N n : Nat) (s : ByteArray) (hm : MapAt w p N s) (hN : N ≤ 4096) (hs : s.size ≤ 1000) (hn1 : 1 ≤ n) (hn : n ≤ N) (r : Nat) (hr : runS s 0 (n : Int) = (r : Int)) (hrn : r + n ≤ N) :
    Calls Try.prog 46 #[.pointer (some ⟨p, 0, none⟩), .int .i64 (n : Int)] w (FEnd w [((r : Int), (n : Int))]) := by
  have HR := Lib.hid (show ∀ w, Calls Try.prog 21 #[.string s, .int .i64 0, .int .i64 (n : Int)] w fun e w' => e = .returned (.int .i64 (r : Int)) ∧ Below w.heap.size w w' from fun w => by rw [← hr]; exact run_at s 0 n w (by omega) (by unfold I64; omega))
  have B0 := Lib.hid (show Below w.heap.size w ((w.alloc (.cells #[.int .i64 (n : Int)] 3 (0, 0))).alloc (.cells #[.slice none 0 0] 39 (0, 0))) from ((Below.refl _ _).alloc (Nat.le_refl _) _).alloc (by simp) _)
  clear hr
  go_enter Try.func46, Try.ntmps46
  go_wp2
  obtain ⟨W, hW⟩ : ∃ W, W = (w.alloc (.cells #[.int .i64 (n : Int)] 3 (0, 0))).alloc (.cells #[.slice none 0 0] 39 (0, 0)) := ⟨_, rfl⟩
  have hn0 : W.heap[w.heap.size]? = some (.cells #[.int .i64 (n : Int)] 3 (0, 0)) := by rw [hW, Below.heap_alloc _ _ _ (by simp)]; exact alloc_new _ _ _ rfl
  have hl0 : W.heap[w.heap.size + 1]? = some (.cells #[.slice none 0 0] 39 (0, 0)) := by rw [hW]; exact alloc_new _ _ _ (by simp)
  have B1 := B0.out
  rw [← hW] at B1 ⊢
  clear hW B0
  have hm1 := hm.keepB B1
  have cm : ∀ d os, (Go.Sort.grow (redrawn W d) os).cell? ⟨p, 1, none⟩ = some (.string s) := fun d os => (hm1.keepB (below_regrown W d os)).c1
  have cn : ∀ d os, (Go.Sort.grow (redrawn W d) os).cell? ⟨w.heap.size, 0, none⟩ = some (.int .i64 (n : Int)) := fun d os => by
    rw [block_cell (((below_regrown W d os).block _ (lt_of_block hn0)).trans hn0)]
    rfl
  refine wp_region_quiet_below (by kernel_rfl) (by kernel_rfl) ?_
  quiet_step (fail)
  quiet_step (fail)
  quiet_step (fail)
  quiet_step (fail)
  quiet_step (fail)
  quiet_step ((go_at_call 21; exact Calls.regrown_of (HR.out _)))
  quiet_step (fail)
  refine wpQuiet_nil ?_
  intro w1 hw'
  obtain ⟨pq, hw''⟩ := hw'
  have hB2 := below_regrown W pq.d pq.os
  have hm2 := hm1.keepB hB2
  have hn2 := (hB2.block _ (lt_of_block hn0)).trans hn0
  have hl2 := (hB2.block _ (lt_of_block hl0)).trans hl0
  have B2 := B1.trans (hB2.mono B1.size)
  rw [← hw''] at hm2 hn2 hl2 B2
  clear hw'' hB2 cm cn hm1 hn0 hl0 B1
  have c0 := hm2.c0
  have cn : w1.cell? ⟨w.heap.size, 0, none⟩ = some (.int .i64 (n : Int)) := by rw [block_cell hn2]; rfl
  have d1 : (0 : Int) ≤ (r : Int) := by omega
  have d2 : IntKind.i64.wrap ((r : Int) + (n : Int)) = (r : Int) + (n : Int) := by rw [IntKind.wrap_i64]; omega
  have d3 : (r : Int) + (n : Int) ≤ (N : Int) := by omega
  go_wp2
  refine wp_region_quiet_lit (by kernel_rfl) (by kernel_rfl) ?_
  quiet_step (fail)
  quiet_step (fail)
  quiet_step (fail)
  quiet_step (fail)
  quiet_step (fail)
  quiet_step (fail)
  quiet_step (fail)
  quiet_step (fail)
  quiet_step (fail)
  quiet_step (fail)
  quiet_step (fail)
  quiet_step (fail)
  refine wpQuiet_nil ?_
  intro _ hw'
  obtain ⟨nq, hw''⟩ := hw'
  subst hw''
  have hl3 : (w1.drewN nq).heap[w.heap.size + 1]? = some (.cells #[.slice none 0 0] 39 (0, 0)) := hl2
  have hn3 : (w1.drewN nq).cell? ⟨w.heap.size, 0, none⟩ = some (.int .i64 (n : Int)) := cn
  have B3 : Below w.heap.size w (w1.drewN nq) := B2.trans ((pw_below_drewN (Below.refl _ _) nq).mono B2.size)
  clear hm2 hn2 hl2 B2 c0 cn d1 d2 d3
  generalize w1.drewN nq = w3 at *
  have lt2 := lt_of_block hl3
  have cl2 : ∀ o, (w3.alloc o).cell? ⟨w.heap.size + 1, 0, none⟩ = some (.slice none 0 0) := fun o => by
    rw [block_cell ((Below.heap_alloc _ _ _ lt2).trans hl3)]
    rfl
  have fl2 : ∀ o, (w3.alloc o).frozen? ⟨w.heap.size + 1, 0, none⟩ = false := fun o => block_frozen ((Below.heap_alloc _ _ _ lt2).trans hl3) 0
  go_wp2
  have h4 := alloc_new (w3.setCell ⟨w.heap.size + 1, 0, none⟩ (.slice (some ⟨w3.heap.size, 0, none⟩) 1 1)) (.cells #[.int .i64 (r : Int), .int .i64 (n : Int)] 43) w3.heap.size (by simp)
  have c4 : ((w3.setCell ⟨w.heap.size + 1, 0, none⟩ (.slice (some ⟨w3.heap.size, 0, none⟩) 1 1)).alloc (.cells #[.int .i64 (r : Int), .int .i64 (n : Int)] 43)).cell? ⟨w.heap.size + 1, 0, none⟩ = some (.slice (some ⟨w3.heap.size, 0, none⟩) 1 1) := by
    rw [block_cell ((Below.heap_alloc _ _ _ (by simpa using lt2)).trans (block_set hl3 0 _))]
    rfl
  refine bodyPost_ret (v := .slice (some ⟨w3.heap.size, 0, none⟩) 1 1) (by simp [results, Try.f46, go_sem, c4]) rfl ?_
  refine ⟨_, rfl, .inr ⟨⟨w3.heap.size, 0, none⟩, 1, rfl, fun i x hi => ?_⟩, ?_, ?_⟩
  · match i with
    | 0 =>
      simp only [List.getElem?_cons_zero, Option.some.injEq] at hi
      subst hi
      refine ⟨?_, ?_⟩
      · rw [show (⟨w3.heap.size, 0, none⟩ : Addr).add (0 * 2) = ⟨w3.heap.size, 0, none⟩ from add_zero _ _, block_cell h4]
        rfl
      · rw [show (⟨w3.heap.size, 0, none⟩ : Addr).add (0 * 2 + 1) = ⟨w3.heap.size, 1, none⟩ from add_zero _ _, block_cell h4]
        rfl
    | i + 1 => simp at hi
  · rintro a l c h -
    cases h
    exact Nat.le_trans (Nat.le_succ _) (Nat.le_of_lt lt2)
  · exact (B3.setCell (by simp) _).alloc (by simpa using Nat.le_of_lt (Nat.lt_of_succ_lt lt2)) _
end Go.Proofs.Ytidnkckfkgaooaa.Al
/- The blocks that are found where so many do not stand together: what the loop keeps. -/
namespace Go.Proofs.Ytidnkckfkgaooaa.Al
open Go.RowKit Go.Shelf Go.Proofs Go.Proofs.Ytidnkckfkgaooaa.Ext Go.Proofs.Ytidnkckfkgaooaa.Pure Go.Proofs.YtidnkckfkgaooaaW.PrintWords Go.Proofs.YtidnkckfkgaooaaW.PrintLast Go.Proofs.YtidnkckfkgaooaaW.PrintMore

/-! ### Cells of extents -/
def cellsE : List (Int × Int) → List Value
  | [] => []
  | x :: r => .int .i64 x.1 :: .int .i64 x.2 :: cellsE r
theorem cellsE_append : ∀ (a b : List (Int × Int)), cellsE (a ++ b) = cellsE a ++ cellsE b
  | [], _ => rfl
  | x :: r, b => by
    show _ :: _ :: cellsE (r ++ b) = _ :: _ :: (cellsE r ++ cellsE b)
    rw [cellsE_append r b]
theorem cellsE_length : ∀ (L : List (Int × Int)), (cellsE L).length = L.length * 2
  | [] => rfl
  | x :: r => by
    show (cellsE r).length + 1 + 1 = (r.length + 1) * 2
    rw [cellsE_length r]
    omega
theorem cellsE_get : ∀ (L : List (Int × Int)) (i : Nat) (x : Int × Int), L[i]? = some x → (cellsE L)[i * 2]? = some (.int .i64 x.1) ∧ (cellsE L)[i * 2 + 1]? = some (.int .i64 x.2)
  | [], _, _, h => by simp at h
  | y :: r, 0, x, h => by
    simp at h
    subst h
    exact ⟨rfl, rfl⟩
  | y :: r, i + 1, x, h => by
    have := cellsE_get r i x (by simpa using h)
    rw [show (i + 1) * 2 = i * 2 + 1 + 1 from by omega]
    exact this
theorem cellsE_one : ∀ (L : List (Int × Int)), ∀ u ∈ cellsE L, u.oneCell' = true
  | [], u, h => by cases h
  | x :: r, u, h => by
    rcases List.mem_cons.1 h with rfl | h
    · rfl
    · rcases List.mem_cons.1 h with rfl | h
      · rfl
      · exact cellsE_one r u h
theorem cellsE_grow (M : List (Int × Int)) (f c d : Int) : (cellsE (M ++ [(f, c)])).set (M.length * 2 + 1) (.int .i64 d) = cellsE (M ++ [(f, d)]) := by
  rw [cellsE_append, cellsE_append, ← cellsE_length M, List.set_append_right _ _ (by omega), show (cellsE M).length + 1 - (cellsE M).length = 1 from by omega]
  rfl
/-- A row that the call owns reads as its extents. -/
theorem ExRow_of_own {w : World} {base : Nat} {v : Value} {L : List (Int × Int)} (h : w.ownsRow base 43 2 v L.length (cellsE L)) : ExRow w v L := by
  rcases h.2 with ⟨h1, h2⟩ | ⟨g, cap, cur, h1, _, hg, _, _, _, ht⟩
  · exact .inl ⟨h1, List.eq_nil_of_length_eq_zero h2⟩
  · refine .inr ⟨⟨g, 0, none⟩, cap, h1, fun i x hi => ?_⟩
    obtain ⟨a, b⟩ := cellsE_get L i x hi
    have key : ∀ j u, (cellsE L)[j]? = some u → w.cell? ((⟨g, 0, none⟩ : Addr).add j) = some u := fun j u hj => by
      rw [add_zero, block_cell hg]
      rw [← ht, List.getElem?_take] at hj
      split at hj
      · rw [Array.getElem?_toList] at hj
        exact hj
      · cases hj
    exact ⟨key _ _ a, key _ _ b⟩

/-! ### The extents of rising blocks -/
theorem packE_ind (R : List (Int × Int) → Prop) (h0 : R []) (hs : ∀ l (i : Nat), R l → R (stepE l i)) (B : List Nat) : R (packE B) := by
  have : ∀ (B : List Nat) l, R l → R (B.foldl stepE l) := by
    intro B
    induction B with
    | nil => intro l h; exact h
    | cons i r ih => intro l h; exact ih _ (hs l i h)
  exact this B [] h0
theorem stepE_cases (l : List (Int × Int)) (i : Nat) : (∃ M f c, l = M ++ [(f, c)] ∧ f + c = (i : Int) ∧ stepE l i = M ++ [(f, c + 1)]) ∨ ((∀ x, l.getLast? = some x → x.1 + x.2 ≠ (i : Int)) ∧ stepE l i = l ++ [((i : Int), 1)]) := by
  by_cases h : ∀ x, l.getLast? = some x → x.1 + x.2 ≠ (i : Int)
  · exact .inr ⟨h, stepE_new h⟩
  · left
    obtain ⟨x, hx⟩ := Classical.not_forall.1 h
    obtain ⟨hx1, hx2⟩ := Classical.not_imp.1 hx
    have hx3 : x.1 + x.2 = (i : Int) := Classical.not_not.1 hx2
    obtain ⟨M, rfl⟩ : ∃ M, l = M ++ [x] := List.getLast?_eq_some_iff.1 hx1
    exact ⟨M, x.1, x.2, rfl, hx3, stepE_more _ _ _ _ hx3⟩
def inE (N : Nat) (x : Int × Int) : Prop := 0 ≤ x.1 ∧ 1 ≤ x.2 ∧ x.1 + x.2 ≤ (N : Int)
theorem packE_in (N : Nat) (B : List Nat) (hB : ∀ i ∈ B, i < N) : ∀ x ∈ packE B, inE N x := by
  have : ∀ (B : List Nat) l, (∀ i ∈ B, i < N) → (∀ x ∈ l, inE N x) → ∀ x ∈ B.foldl stepE l, inE N x := by
    intro B
    induction B with
    | nil => intro l _ h; exact h
    | cons i r ih =>
      intro l hB h
      refine ih _ (fun j hj => hB j (List.mem_cons_of_mem _ hj)) ?_
      have hi := hB i List.mem_cons_self
      rcases stepE_cases l i with ⟨M, f, c, rfl, e1, e2⟩ | ⟨_, e2⟩
      · rw [e2]
        intro x hx
        rcases List.mem_append.1 hx with hx | hx
        · exact h x (List.mem_append_left _ hx)
        · obtain rfl := List.mem_singleton.1 hx
          have := h (f, c) (List.mem_append_right _ (List.mem_singleton.2 rfl))
          unfold inE at *
          simp only at *
          omega
      · rw [e2]
        intro x hx
        rcases List.mem_append.1 hx with hx | hx
        · exact h x hx
        · obtain rfl := List.mem_singleton.1 hx
          unfold inE
          simp only
          omega
  exact this B [] hB (fun x hx => by cases hx)
theorem stepE_length (l : List (Int × Int)) (i : Nat) : (stepE l i).length ≤ l.length + 1 := by
  rcases stepE_cases l i with ⟨M, f, c, rfl, _, e⟩ | ⟨_, e⟩
  · rw [e]; simp
  · rw [e]; simp
theorem packE_length (B : List Nat) : (packE B).length ≤ B.length := by
  have : ∀ (B : List Nat) l, (B.foldl stepE l).length ≤ l.length + B.length := by
    intro B
    induction B with
    | nil => intro l; simp
    | cons i r ih =>
      intro l
      have h1 := ih (stepE l i)
      have h2 := stepE_length l i
      simp only [List.foldl_cons, List.length_cons]
      omega
  have := this B []
  unfold packE
  simpa using this

def valL {N : Nat} (pre : List (Fin N)) : List Nat := pre.map (fun i => i.val)
theorem valL_snoc {N : Nat} (pre : List (Fin N)) (x : Fin N) : valL (pre ++ [x]) = valL pre ++ [x.val] := by
  unfold valL
  rw [List.map_append]
  rfl
theorem valL_length {N : Nat} (pre : List (Fin N)) : (valL pre).length = pre.length := List.length_map _
theorem valL_lt {N : Nat} (pre : List (Fin N)) : ∀ i ∈ valL pre, i < N := fun i hi => by
  obtain ⟨j, _, rfl⟩ := List.mem_map.1 hi
  exact j.isLt
/-! ### What the loop keeps -/
structure FI (w : World) (p Bm : Nat) (k : Int) (L : List (Int × Int)) (W : World) : Prop where
  bn : Boxed W w.heap.size 3 (.int .i64 k)
  bl : ∃ v, Boxed W (w.heap.size + 1) 39 v ∧ W.ownsRow w.heap.size 43 2 v L.length (cellsE L)
  bm : Boxed W Bm 35 (.pointer (some ⟨p, 0, none⟩))
  below : Below w.heap.size w W
theorem boxed_kept {A B : World} {row : Option Nat} {b : Nat} {t : TypeId} {v : Value} (h : Boxed A b t v) (hg : A.grownBy B row) (hr : ∀ r, row = some r → ∃ o : Obj, A.heap[r]? = some o ∧ o.isCells = false) : Boxed B b t v :=
  h.kept hg (fun e => by
    obtain ⟨o, ho, hc⟩ := hr b e.symm
    rw [show A.heap[b]? = _ from h] at ho
    cases ho
    cases hc)
theorem owns_kept {A B : World} {row : Option Nat} {base k : Nat} {v : Value} {xs : List Value} (h : A.ownsRow base 43 2 v k xs) (hg : A.grownBy B row) (hr : ∀ r, row = some r → ∃ o : Obj, A.heap[r]? = some o ∧ o.isCells = false) : B.ownsRow base 43 2 v k xs := by
  refine h.kept hg ?_
  rcases h.2 with ⟨rfl, _⟩ | ⟨g, cap, cur, rfl, _, hgb, _⟩
  · exact .inl rfl
  · refine .inr fun e => ?_
    obtain ⟨o, ho, hc⟩ := hr g e.symm
    rw [hgb] at ho
    cases ho
    cases hc
theorem FI.grown {w A B : World} {p Bm : Nat} {k : Int} {L : List (Int × Int)} {row : Option Nat} (h : FI w p Bm k L A) (hg : A.grownBy B row) (hr : ∀ r, row = some r → w.heap.size ≤ r ∧ ∃ o : Obj, A.heap[r]? = some o ∧ o.isCells = false) : FI w p Bm k L B := by
  have hr2 := fun r e => (hr r e).2
  obtain ⟨v, b1, b2⟩ := h.bl
  exact ⟨boxed_kept h.bn hg hr2, ⟨v, boxed_kept b1 hg hr2, owns_kept b2 hg hr2⟩, boxed_kept h.bm hg hr2, h.below.grown hg h.below.size (fun r e => (hr r e).1)⟩
theorem FI.drewN {w A : World} {p Bm : Nat} {k : Int} {L : List (Int × Int)} (h : FI w p Bm k L A) (n : Nat) : FI w p Bm k L (A.drewN n) :=
  ⟨h.bn, h.bl, h.bm, h.below.trans ((pw_below_drewN (Below.refl _ _) n).mono h.below.size)⟩
/-- What a round turns is none of what the iterator reads. -/
structure Stp (B p Bm : Nat) (W W' : World) : Prop where
  from' : KeepsFrom B W W'
  kp : KpM p Bm W W'
theorem Stp.refl (B p Bm : Nat) (W : World) : Stp B p Bm W W := ⟨KeepsFrom.refl _ _, KpM.refl _ _ _⟩
theorem Stp.trans {B p Bm : Nat} {X Y Z : World} (h : Stp B p Bm X Y) (k : Stp B p Bm Y Z) : Stp B p Bm X Z := ⟨h.from'.trans k.from', h.kp.trans k.kp⟩
theorem Stp.drewN (B p Bm : Nat) (W : World) (n : Nat) : Stp B p Bm W (W.drewN n) := ⟨⟨Nat.le_refl _, fun _ _ _ h _ => h⟩, fun _ _ _ _ _ h => h⟩
theorem FI.count {w W : World} {p Bm B : Nat} {k : Int} {L : List (Int × Int)} (h : FI w p Bm k L W) (hp : p < w.heap.size) (hm : w.heap.size + 2 ≤ Bm) (j : Int) :
    FI w p Bm j L (W.setCell ⟨w.heap.size, 0, none⟩ (.int .i64 j)) ∧ Stp B p Bm W (W.setCell ⟨w.heap.size, 0, none⟩ (.int .i64 j)) := by
  obtain ⟨v, b1, b2⟩ := h.bl
  refine ⟨⟨h.bn.set _, ⟨v, b1.other (by omega) _, b2.kept (grownBy_setCell' _ _ _) (.inr (h.bn.not_row (by decide) b2).symm)⟩, h.bm.other (by omega) _, h.below.setCell (p := ⟨w.heap.size, 0, none⟩) (Nat.le_refl _) _⟩, (KeepsOthers.setCell _ _ _).from _, ?_⟩
  intro b hb cs t fr hc
  refine (Below.heap_setCell _ _ _ _ ?_).trans hc
  show b ≠ w.heap.size
  omega
theorem FI.more {w W : World} {p Bm B g cap : Nat} {k f c : Int} {M : List (Int × Int)} (h : FI w p Bm k (M ++ [(f, c)]) W) (hp : p < w.heap.size) (hm : w.heap.size + 2 ≤ Bm)
    (hv : Boxed W (w.heap.size + 1) 39 (.slice (some ⟨g, 0, none⟩) (M.length + 1) cap)) (d : Int) :
    FI w p Bm k (M ++ [(f, d)]) (W.setCell ⟨g, M.length * 2 + 1, none⟩ (.int .i64 d)) ∧ Stp B p Bm W (W.setCell ⟨g, M.length * 2 + 1, none⟩ (.int .i64 d)) := by
  obtain ⟨v, b1, b2⟩ := h.bl
  obtain rfl : v = .slice (some ⟨g, 0, none⟩) (M.length + 1) cap := by
    have := (show W.heap[w.heap.size + 1]? = _ from hv).symm.trans b1
    simp at this
    exact this.symm
  have n1 := h.bn.not_row (by decide) b2
  have n2 := b1.not_row (by decide) b2
  have n3 := h.bm.not_row (by decide) b2
  have hg := (b2.lt g rfl).1
  rw [List.length_append, List.length_singleton] at b2
  obtain ⟨b3, b4⟩ := b2.stored (M.length * 2 + 1) (.int .i64 d)
  rw [cellsE_grow] at b3
  refine ⟨⟨h.bn.kept b4 n1, ⟨_, b1.kept b4 n2, by rw [List.length_append, List.length_singleton]; exact b3⟩, h.bm.kept b4 n3, h.below.setCell (p := ⟨g, M.length * 2 + 1, none⟩) hg _⟩, (KeepsOthers.setCell _ _ _).from _, ?_⟩
  intro b hb cs t fr hc
  refine (Below.heap_setCell _ _ _ _ ?_).trans hc
  show b ≠ g
  rcases hb with rfl | rfl
  · omega
  · exact fun e => n3 (by rw [e]; rfl)
theorem FI.putl {w W : World} {p Bm : Nat} {k : Int} {L L' : List (Int × Int)} {v' : Value} (h : FI w p Bm k L W) (hm : w.heap.size + 2 ≤ Bm) (ho : W.ownsRow w.heap.size 43 2 v' L'.length (cellsE L')) :
    FI w p Bm k L' (W.setCell ⟨w.heap.size + 1, 0, none⟩ v') := by
  obtain ⟨v, b1, b2⟩ := h.bl
  exact ⟨h.bn.other (by omega) _, ⟨v', b1.set _, ho.kept (grownBy_setCell' _ _ _) (.inr (b1.not_row (by decide) ho).symm)⟩, h.bm.other (by omega) _, h.below.setCell (p := ⟨w.heap.size + 1, 0, none⟩) (by simp) _⟩
theorem FI.snoc {w W w1 : World} {p Bm B : Nat} {k : Int} {L : List (Int × Int)} {v v' : Value} {x : Int × Int} {tmp : Obj} (h : FI w p Bm k L W) (hp : p < w.heap.size) (hm : w.heap.size + 2 ≤ Bm) (hv : Boxed W (w.heap.size + 1) 39 v)
    (hg : (W.alloc tmp).grownBy w1 v.ownBlock) (ho : w1.ownsRow w.heap.size 43 2 v' (L.length + 1) (cellsE L ++ cellsE [x])) :
    FI w p Bm k (L ++ [x]) (w1.setCell ⟨w.heap.size + 1, 0, none⟩ v') ∧ Stp B p Bm W (w1.setCell ⟨w.heap.size + 1, 0, none⟩ v') ∧ Boxed w1 (w.heap.size + 1) 39 v := by
  obtain ⟨v0, b1, b2⟩ := h.bl
  obtain rfl : v0 = v := by
    have := (show W.heap[w.heap.size + 1]? = _ from hv).symm.trans b1
    simp at this
    exact this.symm
  rw [← cellsE_append] at ho
  have hsz := h.below.size
  obtain ⟨a1, a2, a3, a4, a5⟩ := hv.appended (e := 43) (by decide) b2 hsz (by omega) ho hg
  have n1 := h.bn.not_row (e := 43) (by decide) b2
  have n3 := h.bm.not_row (e := 43) (by decide) b2
  refine ⟨⟨((h.bn.alloc tmp).kept hg n1).other (by omega) _, ⟨v', a2, by rw [List.length_append, List.length_singleton]; exact a3⟩, ((h.bm.alloc tmp).kept hg n3).other (by omega) _, h.below.trans a5⟩, ⟨a4.from _, ?_⟩, a1⟩
  intro b hb cs t fr hc
  rcases hb with rfl | rfl
  · exact (a5.block _ hp).trans hc
  · rw [Below.heap_setCell _ _ _ _ (show b ≠ w.heap.size + 1 by omega), hg.block _ (by have := lt_of_block hc; simp; omega) n3, Below.heap_alloc _ _ _ (lt_of_block hc)]
    exact hc
/-- The list, behind the loop. -/
theorem FI.fin {w W : World} {p Bm D : Nat} {k : Int} {L : List (Int × Int)} {v : Value} (h : FI w p Bm k L W) (hD : W.heap[D]? = some (.deferred (some []))) (hw : w.heap.size ≤ D) (hv : Boxed W (w.heap.size + 1) 39 v) :
    (W.putObj D (.deferred none)).cell? ⟨w.heap.size + 1, 0, none⟩ = some v ∧ FEnd w L (.returned v) (W.putObj D (.deferred none)) := by
  have h2 := h.grown (grownBy_putObj' W D (.deferred none)) (fun r e => by cases e; exact ⟨hw, _, hD, rfl⟩)
  have hv2 := boxed_kept hv (grownBy_putObj' W D (.deferred none)) (fun r e => by cases e; exact ⟨_, hD, rfl⟩)
  obtain ⟨v0, b1, b2⟩ := h2.bl
  obtain rfl : v0 = v := by
    have := (show (W.putObj D (.deferred none)).heap[w.heap.size + 1]? = _ from hv2).symm.trans b1
    simp at this
    exact this.symm
  refine ⟨hv2.cell, _, rfl, ExRow_of_own b2, ?_, h2.below⟩
  rintro a l c rfl _
  exact (b2.lt a.block rfl).1
end Go.Proofs.Ytidnkckfkgaooaa.Al
