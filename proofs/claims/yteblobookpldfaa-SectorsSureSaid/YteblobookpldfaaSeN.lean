/- A sector read: the walk. -/
import Derived.Test.YteblobookpldfaaSeM
namespace Go.Proofs.Yteblobookpldfaa.Se
open Go.RowKit Go.Shelf Go.Proofs
attribute [local go_sem] Oper.semAt_some

theorem boxed_kept {A B : World} {row : Option Nat} {b : Nat} {t : TypeId} {v : Value} (h : Boxed A b t v) (hg : A.grownBy B row) (hr : ∀ r, row = some r → ∃ o : Obj, A.heap[r]? = some o ∧ o.isCells = false) : Boxed B b t v :=
  h.kept hg (fun e => by
    obtain ⟨o, ho, hc⟩ := hr b e.symm
    rw [show A.heap[b]? = _ from h] at ho
    cases ho
    cases hc)
/-- What a sector has: the last loose write of it, or what is sure. -/
def lastW (n : Nat) : List (Nat × ByteArray) → Option ByteArray
  | [] => none
  | x :: l => match lastW n l with
    | some s => some s
    | none => if x.1 = n then some x.2 else none
def readD (d : Dk) (n : Nat) : ByteArray := match lastW n d.loose with
  | some s => s
  | none => d.sure.getD n ⟨#[]⟩
theorem DAt.lrow {W : World} {F : Nat → Prop} {p : Nat} {sv lv kv : Value} {d : Dk} (h : DAt W F p sv lv kv d) : ∃ g, LRow W g lv d.loose := by
  rcases h.lo.2 with ⟨e, e2⟩ | ⟨g, cap, cur, e, _, hg, h4, h5, h6, h7⟩
  · exact ⟨0, .inl ⟨e, List.eq_nil_of_length_eq_zero e2⟩⟩
  · refine ⟨g, .inr ⟨cap, cur, 66, (0, 0), e, hg, fun i x hx => ?_⟩⟩
    obtain ⟨q0, q1⟩ := looseV_get _ _ _ hx
    have hi := (List.getElem?_eq_some_iff.1 hx).1
    rw [← h7, List.getElem?_take, if_pos (by omega)] at q0 q1
    exact ⟨by simpa using q0, by simpa using q1⟩
theorem lastW_none {n : Nat} : ∀ {L : List (Nat × ByteArray)}, (∀ i, i < L.length → (wrV L i).1 ≠ n) → lastW n L = none
  | [], _ => rfl
  | x :: l, h => by
    have h1 := lastW_none (n := n) (L := l) fun i hi => h (i + 1) (by simpa using hi)
    have h2 : x.1 ≠ n := h 0 (by simp)
    unfold lastW
    rw [h1]
    exact if_neg h2
theorem lastW_some {n : Nat} : ∀ {L : List (Nat × ByteArray)} (i : Nat), i < L.length → (wrV L i).1 = n → (∀ j, i < j → j < L.length → (wrV L j).1 ≠ n) → lastW n L = some (wrV L i).2
  | [], i, hi, _, _ => absurd hi (by simp)
  | x :: l, 0, _, h1, h2 => by
    have h3 := lastW_none (n := n) (L := l) fun j hj => h2 (j + 1) (by omega) (by simpa using hj)
    have h4 : x.1 = n := h1
    unfold lastW
    rw [h3]
    exact if_pos h4
  | x :: l, i + 1, hi, h1, h2 => by
    have h3 := lastW_some (n := n) (L := l) i (by simpa using hi) h1 fun j hj hl => h2 (j + 1) (by omega) (by simpa using hl)
    unfold lastW
    rw [h3]
    rfl
theorem readD_none {d : Dk} {n : Nat} (h : ∀ i, i < d.loose.length → (wrV d.loose i).1 ≠ n) : readD d n = d.sure.getD n ⟨#[]⟩ := by
  unfold readD
  rw [lastW_none h]
theorem readD_done {d : Dk} {n : Nat} {ys : List (Fin d.loose.length)} (hy : ys.map (·.val) = (List.range d.loose.length).reverse) (h : ∀ y ∈ ys, (wrV d.loose y.val).1 ≠ n) : readD d n = d.sure.getD n ⟨#[]⟩ :=
  readD_none fun i hi => by
    have hm : i ∈ ys.map (·.val) := by
      rw [hy]
      simpa using hi
    obtain ⟨y, h1, rfl⟩ := List.mem_map.1 hm
    exact h y h1
theorem readD_stop {d : Dk} {n : Nat} {pre : List (Fin d.loose.length)} {x : Fin d.loose.length} (hy : (pre ++ [x]).map (·.val) <+: (List.range d.loose.length).reverse) (h : ∀ y ∈ pre, (wrV d.loose y.val).1 ≠ n) (hx : (wrV d.loose x.val).1 = n) : readD d n = (wrV d.loose x.val).2 := by
  have h1 : lastW n d.loose = some (wrV d.loose x.val).2 := lastW_some x.val x.isLt hx fun j hj hl => by
    obtain ⟨t, ht⟩ := hy
    have e : List.range d.loose.length = t.reverse ++ x.val :: (pre.map (·.val)).reverse := by
      have := congrArg List.reverse ht
      rw [List.reverse_reverse] at this
      rw [← this]
      simp
    have hp := List.pairwise_lt_range (n := d.loose.length)
    have hm : j ∈ List.range d.loose.length := by simpa using hl
    rw [e] at hm hp
    rcases List.mem_append.1 hm with hm | hm
    · have := (List.pairwise_append.1 hp).2.2 j hm x.val (by simp)
      omega
    · rcases List.mem_cons.1 hm with rfl | hm
      · omega
      · obtain ⟨y, h1, rfl⟩ := List.mem_map.1 (List.mem_reverse.1 hm)
        exact h y h1
  unfold readD
  rw [h1]
theorem DAt.sure_at {W : World} {F : Nat → Prop} {p c : Nat} {o : Option Addr} {lv kv : Value} {d : Dk} (h : DAt W F p (.slice o d.sure.length c) lv kv d) (n : Nat) (hn : n < d.sure.length) : ∃ g, o = some ⟨g, 0, none⟩ ∧ W.cell? ⟨g, n, none⟩ = some (.string (d.sure.getD n ⟨#[]⟩)) := by
  rcases h.su.2 with ⟨e, e2⟩ | ⟨g, cap, cur, e, _, hg, h4, h5, h6, h7⟩
  · omega
  · obtain ⟨e1, _, _⟩ := Value.slice.inj e
    refine ⟨g, e1, ?_⟩
    rw [block_cell hg]
    have q : (d.sure.map Value.string)[n]? = some (.string (d.sure.getD n ⟨#[]⟩)) := by
      rw [List.getElem?_map, List.getD_eq_getElem?_getD, List.getElem?_eq_getElem hn]
      rfl
    rw [← h7, List.getElem?_take, if_pos (by omega)] at q
    simpa using q
/-- Within the loop. -/
structure RI (w : World) (n : Nat) (r : ByteArray) (W : World) : Prop where
  bn : Boxed W w.heap.size 3 (.int .i64 (n : Int))
  br : Boxed W (w.heap.size + 1) 9 (.string r)
  be : Boxed W (w.heap.size + 1 + 1) 26 (.int .i64 0)
  below : Below w.heap.size w W
theorem RI.grown {w A B : World} {n : Nat} {r : ByteArray} {row : Option Nat} (h : RI w n r A) (hg : A.grownBy B row) (hr : ∀ k, row = some k → w.heap.size ≤ k ∧ ∃ o : Obj, A.heap[k]? = some o ∧ o.isCells = false) : RI w n r B :=
  ⟨boxed_kept h.bn hg (fun r e => (hr r e).2), boxed_kept h.br hg (fun r e => (hr r e).2), boxed_kept h.be hg (fun r e => (hr r e).2), h.below.grown hg h.below.size (fun r e => (hr r e).1)⟩
theorem RI.keepB {w A B : World} {n : Nat} {r : ByteArray} (h : RI w n r A) (hB : Below A.heap.size A B) : RI w n r B :=
  ⟨(hB.block _ h.bn.lt).trans h.bn, (hB.block _ h.br.lt).trans h.br, (hB.block _ h.be.lt).trans h.be, h.below.trans (hB.mono h.below.size)⟩
theorem RI.fin {w W : World} {D n : Nat} {r : ByteArray} (h : RI w n r W) (hD : W.heap[D]? = some (.deferred (some []))) (hw : w.heap.size ≤ D) :
    (W.putObj D (.deferred none)).cell? ⟨w.heap.size + 1, 0, none⟩ = some (.string r) ∧ (W.putObj D (.deferred none)).cell? ⟨w.heap.size + 1 + 1, 0, none⟩ = some (.int .i64 0) ∧ Below w.heap.size w (W.putObj D (.deferred none)) := by
  have h2 := h.grown (grownBy_putObj' W D (.deferred none)) (fun r e => by cases e; exact ⟨hw, _, hD, rfl⟩)
  exact ⟨h2.br.cell, h2.be.cell, h2.below⟩
attribute [local irreducible] Go.wpQuiet
set_option maxRecDepth 100000 in
set_option maxHeartbeats 2000000 in
theorem read_ok {w : World} {F : Nat → Prop} {p : Nat} {sv lv kv : Value} {d : Dk} (h : DAt w F p sv lv kv d) (hc : chk d = 0) (n : Nat) (hn : n < d.sure.length) (hL : d.loose.length ≤ 1000000) :
    Calls Try.prog 13 #[.pointer (some ⟨p, 0, none⟩), .int .i64 (n : Int)] w fun e w' => e = .returned (.tuple #[.string (readD d n), .int .i64 0]) ∧ Below w.heap.size w w' := by
  obtain ⟨o, c, rfl⟩ := ownsRow_form h.su
  obtain ⟨ol, cl, rfl⟩ := ownsRow_form h.lo
  have HC := Lib.hid (fun o1 o2 o3 => check_calls (h.keepB (three_below w o1 o2 o3)))
  rw [hc] at HC
  have c0 := fun o1 o2 o3 => (h.keepB (three_below w o1 o2 o3)).c0
  have HH := Lib.hid h
  clear h
  refine (callsIn_wide (n := 5)).1 (callsIn_of_wp_marks Try.func13 rfl trivial ?_ rfl)
  simp only [Try.ntmps13, List.size_toArray, List.length_cons, List.length_nil, Nat.reduceAdd, Nat.reduceSub, Array.replicate_succ, Array.replicate_zero, List.push_toArray, List.append_toArray, List.nil_append, List.cons_append]
  refine wpIn_wide.2 ?_
  obtain ⟨Q0, hQ0⟩ : ∃ Q0, Q0 = bodyPostM Fence.wide 5 Try.prog Try.f13 (fun e w' => e = .returned (.tuple #[.string (readD d n), .int .i64 0]) ∧ Below w.heap.size w w') := ⟨_, rfl⟩
  rw [← hQ0]
  have HQ := Lib.hid hQ0
  clear hQ0
  have h1 : ¬ (n : Int) < 0 := by omega
  have h2 : ¬ (d.sure.length : Int) ≤ (n : Int) := by omega
  have h3 : decide ((n : Int) < 0) = false := decide_eq_false h1
  have h4 : decide ((d.sure.length : Int) ≤ (n : Int)) = false := decide_eq_false h2
  go_wp2_with (go_at_call 32; refine (HC.out _ _ _).mono ?_; rintro e w' ⟨rfl, rfl⟩)
  have hR : RI w n ⟨#[]⟩ (((w.alloc (.cells #[.int .i64 (n : Int)] 3)).alloc (.cells #[.string ⟨#[]⟩] 9)).alloc (.cells #[.int .i64 0] 26)) := by
    refine ⟨((Boxed.new w 3 _).alloc _).alloc _, ?_, ?_, three_below w _ _ _⟩
    · have := (Boxed.new (w.alloc (.cells #[.int .i64 (n : Int)] 3)) 9 (.string ⟨#[]⟩)).alloc (.cells #[.int .i64 0] 26)
      simpa using this
    · have := Boxed.new ((w.alloc (.cells #[.int .i64 (n : Int)] 3)).alloc (.cells #[.string ⟨#[]⟩] 9)) 26 (.int .i64 0)
      simpa using this
  refine wp_region_quiet_lit (by kernel_rfl) (by kernel_rfl) ?_
  quiet_step (fail)
  quiet_step (fail)
  quiet_step (fail)
  quiet_step (fail)
  quiet_step (fail)
  quiet_step (fail)
  quiet_step (fail)
  quiet_step (fail)
  quiet_step (fail)
  quiet_step (fail)
  quiet_step (fail)
  refine wpQuiet_nil ?_
  intro _ hw'
  obtain ⟨nq, hw''⟩ := hw'
  subst hw''
  have hR2 := hR.keepB (below_drewN (Below.refl _ _) nq)
  have hD2 := (HH.out.keepB (three_below w (.cells #[.int .i64 (n : Int)] 3) (.cells #[.string ⟨#[]⟩] 9) (.cells #[.int .i64 0] 26))).keepB (below_drewN (Below.refl _ _) nq)
  clear hR c0
  generalize (((w.alloc (.cells #[.int .i64 (n : Int)] 3)).alloc (.cells #[.string ⟨#[]⟩] 9)).alloc (.cells #[.int .i64 0] 26)).drewN nq = W at *
  have c1 := hD2.c1
  have HD2 := Lib.hid hD2
  have HR2 := Lib.hid hR2
  clear hD2 hR2
  go_wp2_with (go_at_call 33; refine ((callsIn_wide (n := 5)).1 (back_made 5 _ ol d.loose.length cl rfl _)).mono ?_; rintro e w' ⟨rfl, rfl⟩)
  obtain ⟨g, hg⟩ := HD2.out.lrow
  have bM : Boxed (W.alloc (.cells #[.slice ol d.loose.length cl] 45)) W.heap.size 45 (.slice ol d.loose.length cl) := Boxed.new _ _ _
  have hgl := hg.keepB ((Below.refl W.heap.size W).alloc (Nat.le_refl _) (.cells #[.slice ol d.loose.length cl] 45))
  have hR3 := HR2.out.keepB ((Below.refl W.heap.size W).alloc (Nat.le_refl _) (.cells #[.slice ol d.loose.length cl] 45))
  have hs3 : w.heap.size + 3 ≤ W.heap.size := HR2.out.be.lt
  clear hg
  refine (wpIn_wide (n := 5)).1 ?_
  refine wpIn_rangeFunc_ownH (α := Fin d.loose.length) (ps := #[30, 31]) rfl (show 1 ≤ 5 from by decide) (gf := 46) (lb := #[.pointer (some ⟨W.heap.size, 0, none⟩)]) rfl trivial (enters_of Try.func46 (by kernel_rfl) rfl)
    (back_stops 4 (by decide) g W.heap.size _ d.loose hL _ hgl bM) (fun h k => KpM.trans h k) (fun W l o o' _ ho hc _ => KpM.putObj W l o o' ho hc) (Below.refl _ _) (fun _ => rfl)
    (fun (pre : List (Fin d.loose.length)) W1 => (∀ y ∈ pre, (wrV d.loose y.val).1 ≠ n) ∧ RI w n ⟨#[]⟩ W1 ∧ Boxed W1 W.heap.size 45 (.slice ol d.loose.length cl))
    (fun c (pre : List (Fin d.loose.length)) W1 => c = .ret ∧ ∃ pre' x, pre = pre' ++ [x] ∧ (∀ y ∈ pre', (wrV d.loose y.val).1 ≠ n) ∧ (wrV d.loose x.val).1 = n ∧ RI w n (wrV d.loose x.val).2 W1)
    (fun pre A B row h hg hr => ⟨h.1, h.2.1.grown hg (fun r e => ⟨by have := (hr r e).1; simp at this; omega, (hr r e).2⟩), boxed_kept h.2.2 hg (fun r e => (hr r e).2)⟩)
    (fun c pre A B row h hg hr => by
      obtain ⟨hc, pre', x, e1, e2, e3, h2⟩ := h
      exact ⟨hc, pre', x, e1, e2, e3, h2.grown hg (fun r e => ⟨by have := (hr r e).1; simp at this; omega, (hr r e).2⟩)⟩)
    ⟨fun y hy => (by cases hy), hR3, bM⟩
    (fun (x : Fin d.loose.length) a' W1 => ∃ nb, W.heap.size < nb ∧ W1.heap[nb]? = some (.cells #[.int .i64 ((wrV d.loose x.val).1 : Int), .string (wrV d.loose x.val).2] 66 (0, 0)) ∧ a' = { tmps := #[.pointer (some ⟨p, 0, none⟩), .int .i64 (n : Int), undef, .pointer (some ⟨w.heap.size, 0, none⟩), .pointer (some ⟨w.heap.size + 1, 0, none⟩), .pointer (some ⟨w.heap.size + 1 + 1, 0, none⟩), .int .i64 0, undef, .pointer (some ⟨nb, 0, none⟩), .pointer (some ⟨p, 0, none⟩), .int .i64 0, .int .i64 0, .bool false, undef, .int .i64 (n : Int), .bool false, .bool false, .int .i64 (n : Int), .pointer (some ⟨p, 0, none⟩), .pointer (some ⟨p, 0, none⟩), .pointer (some ⟨p, 0, none⟩), .slice o d.sure.length c, .int .i64 (d.sure.length : Int), .bool false, .bool false, .pointer (some ⟨p, 0, none⟩), .pointer (some ⟨p, 0, none⟩), .pointer (some ⟨p, 1, none⟩), .slice ol d.loose.length cl, .func (.func 46) #[] #[.pointer (some ⟨W.heap.size, 0, none⟩)], .int .i64 (x.val : Int), .agg #[.int .i64 ((wrV d.loose x.val).1 : Int), .string (wrV d.loose x.val).2], undef, undef, undef, undef, undef, undef, undef, undef, undef, undef, undef, undef, undef], defers := [] })
    (fun x a' s A B row h hg hr => by
      obtain ⟨nb, h0, h1, h2⟩ := h
      refine ⟨nb, h0, ?_, h2⟩
      rw [hg.block nb (lt_of_block h1) (fun e => by
        obtain ⟨o, ho, hc⟩ := (hr nb e.symm).2
        rw [h1] at ho
        cases ho
        cases hc)]
      exact h1)
    ?assign ?body ?done ?stop
  case assign =>
    rintro l pre x W1 K ⟨hne, hI, hbb⟩ hK
    gi_wp2
    refine hK _ _ ((KeepsOthers.alloc W1 _).from _) (fun k _ cs t fr hc => (heap_alloc_old W1 _ (lt_of_block hc)).trans hc) ⟨hne, hI.keepB ((Below.refl _ _).alloc (Nat.le_refl _) _), hbb.alloc _⟩ ⟨W1.heap.size, hbb.lt, alloc_new _ _ _ rfl, rfl⟩
  case body =>
    rintro l pre x a' W1 hlb - ⟨hne, hI, hbb⟩ ⟨nb, hnb, hB, rfl⟩ hlen
    have cn := hI.bn.cell
    have cr := hI.br.cell
    have ce := hI.be.cell
    have fr := hI.br.frozen
    have fe := hI.be.frozen
    have q0 : W1.cell? ⟨nb, 0, none⟩ = some (.int .i64 ((wrV d.loose x.val).1 : Int)) := by rw [block_cell hB]; rfl
    have q1 : W1.cell? ⟨nb, 1, none⟩ = some (.string (wrV d.loose x.val).2) := by rw [block_cell hB]; rfl
    obtain ⟨y, hy⟩ : ∃ y, y = wrV d.loose x.val := ⟨_, rfl⟩
    rw [← hy] at q0 q1 ⊢
    have HY := Lib.hid hy
    clear hy hB
    by_cases e : y.1 = n
    · have e1 : ((y.1 : Int) == (n : Int)) = true := by simp [e]
      gi_wp2
      refine ⟨(((KeepsOthers.setCell W1 _ _).trans (KeepsOthers.setCell _ _ _)).from _), rfl, pre, x, rfl, hne, HY.out ▸ e, ?_⟩
      rw [← HY.out]
      exact ⟨(hI.bn.other (by omega) _).other (by omega) _, (hI.br.set _).other (by omega) _, (hI.be.other (by omega) _).set _, (hI.below.setCell (p := ⟨w.heap.size + 1, 0, none⟩) (by show w.heap.size ≤ w.heap.size + 1; omega) _).setCell (p := ⟨w.heap.size + 1 + 1, 0, none⟩) (by show w.heap.size ≤ w.heap.size + 1 + 1; omega) _⟩
    · have e1 : ((y.1 : Int) == (n : Int)) = false := by simp; omega
      gi_wp2
      refine ⟨KeepsFrom.refl _ _, KpM.refl _ _ _, ?_, hI, hbb⟩
      intro z hz
      rcases List.mem_append.1 hz with hz | hz
      · exact hne z hz
      · obtain rfl := List.mem_singleton.1 hz
        rw [← HY.out]
        exact e
  case done =>
    rintro D ys W1 hD hys ⟨hne, hI, hbb⟩ hK
    have hv := Lib.hid (readD_done hys hne)
    have hD1 := HH.out.keepB hI.below
    have c0 := hD1.c0
    obtain ⟨gs, rfl, cs⟩ := hD1.sure_at n hn
    have cn := hI.bn.cell
    have cr := hI.br.cell
    have ce := hI.be.cell
    have fr := hI.br.frozen
    have fe := hI.be.frozen
    have HI := Lib.hid hI
    clear hys hne hD1 hI
    obtain ⟨al, hal⟩ : ∃ al, al = (⟨gs, 0, none⟩ : Addr) := ⟨_, rfl⟩
    have cs2 : W1.cell? (al.add n) = some (.string (d.sure.getD n ⟨#[]⟩)) := by rw [hal, add_zero]; exact cs
    rw [← hal] at c0 ⊢
    clear cs hal
    have h5 : (0 : Int) ≤ (n : Int) := by omega
    have h6 : (n : Int) < (d.sure.length : Int) := by omega
    have h7 : ((n : Int)).toNat = n := by omega
    gi_wp2
    go_upto_region 10 with fail
    refine QT.wp_region_draws_tail 7 (by kernel_rfl) (by kernel_rfl) ?_
    simp only [List.take_succ_cons, List.take_zero, List.drop_succ_cons, List.drop_zero]
    repeat (quiet_step (fail))
    refine wpQuiet_nil ?_
    intro w3 hw3
    obtain ⟨pq, hw3'⟩ := hw3
    subst hw3'
    go_wp2
    have hw3 : w.heap.size ≤ D := by
      have : W.heap.size + 1 ≤ D := by simpa using hD
      omega
    have hR5 : RI w n (d.sure.getD n ⟨#[]⟩) (((W1.drewN pq).setCell ⟨w.heap.size + 1, 0, none⟩ (.string (d.sure.getD n ⟨#[]⟩))).setCell ⟨w.heap.size + 1 + 1, 0, none⟩ (.int .i64 0)) := by
      have h0 := HI.out.keepB (below_drewN (Below.refl _ _) pq)
      exact ⟨(h0.bn.other (by omega) _).other (by omega) _, (h0.br.set _).other (by omega) _, (h0.be.other (by omega) _).set _, (h0.below.setCell (p := ⟨w.heap.size + 1, 0, none⟩) (by show w.heap.size ≤ w.heap.size + 1; omega) _).setCell (p := ⟨w.heap.size + 1 + 1, 0, none⟩) (by show w.heap.size ≤ w.heap.size + 1 + 1; omega) _⟩
    have hD5 : (((W1.drewN pq).setCell ⟨w.heap.size + 1, 0, none⟩ (.string (d.sure.getD n ⟨#[]⟩))).setCell ⟨w.heap.size + 1 + 1, 0, none⟩ (.int .i64 0)).heap[D]? = some (.deferred (some [])) :=
      ((KeepsOthers.setCell _ _ _).trans (KeepsOthers.setCell _ _ _)).same D _ (show (W1.drewN pq).heap[D]? = _ from hK) rfl
    have hgd : d.sure[n] = d.sure.getD n ⟨#[]⟩ := by
      rw [List.getD_eq_getElem?_getD, List.getElem?_eq_getElem hn]
      rfl
    rw [hgd]
    generalize ((W1.drewN pq).setCell ⟨w.heap.size + 1, 0, none⟩ (.string (d.sure.getD n ⟨#[]⟩))).setCell ⟨w.heap.size + 1 + 1, 0, none⟩ (.int .i64 0) = W5 at *
    obtain ⟨c4, c5, h6⟩ := hR5.fin hD5 hw3
    have hv2 := hv.out
    rw [HQ.out]
    generalize d.sure.getD n ⟨#[]⟩ = rr at *
    refine ⟨by simp, .inl ⟨_, _, rfl, run_takeDeferred hD5, ?_⟩⟩
    exact ⟨.tuple #[.string rr, .int .i64 0], (by simp [results, Try.f13, go_sem, c4, c5, Result.andThen]), (by rw [hv2]), h6⟩
  case stop =>
    rintro D c pre W1 hD hys ⟨rfl, pre', x, rfl, e2, e3, h2⟩ hK
    have hv := Lib.hid (readD_stop hys e2 e3)
    have hw3 : w.heap.size ≤ D := by
      have : W.heap.size + 1 ≤ D := by simpa using hD
      omega
    gi_wp2
    obtain ⟨c4, c5, h6⟩ := h2.fin hK hw3
    have hv2 := hv.out
    rw [HQ.out]
    generalize (wrV d.loose x.val).2 = rr at *
    refine ⟨by simp, .inl ⟨_, _, rfl, run_takeDeferred hK, ?_⟩⟩
    exact ⟨.tuple #[.string rr, .int .i64 0], (by simp [results, Try.f13, go_sem, c4, c5, Result.andThen]), (by rw [hv2]), h6⟩
end Go.Proofs.Yteblobookpldfaa.Se
