/- The blocks that are found: the walk where so many do not stand together. -/
import Derived.Test.YtidnkckfkgaooaaAlB
namespace Go.Proofs.Ytidnkckfkgaooaa.Al
open Go.RowKit Go.Shelf Go.Proofs Go.Proofs.Ytidnkckfkgaooaa.Ext Go.Proofs.Ytidnkckfkgaooaa.Pure Go.Proofs.YtidnkckfkgaooaaW.PrintWords Go.Proofs.YtidnkckfkgaooaaW.PrintLast Go.Proofs.YtidnkckfkgaooaaW.PrintMore
attribute [local go_sem] Oper.semAt_some
theorem info43 : (Try.prog.info? 43).map (fun i => (i.zero, i.size, i.bytes)) = some (some (.agg #[.int .i64 0, .int .i64 0]), 2, 16) := by kernel_rfl
theorem newE_at (w : World) (x y : Int) : ∀ (j : Nat) (u : Value), (cellsE [(x, y)])[j]? = some u → (w.alloc (.cells #[.int .i64 x, .int .i64 y] 43)).cell? ((⟨w.heap.size, 0, none⟩ : Addr).add j) = some u := by
  intro j u hj
  rw [add_zero, block_cell (alloc_new w _ _ rfl)]
  match j with
  | 0 => exact hj
  | 1 => exact hj
  | j + 2 => simp [cellsE] at hj
attribute [local irreducible] Go.wpQuiet runS
set_option maxRecDepth 100000 in
set_option maxHeartbeats 2000000 in
theorem find_free (w : World) (p N n : Nat) (s : ByteArray) (hm : MapAt w p N s) (hN : N ≤ 4096) (hs : s.size ≤ 1000) (hn1 : 1 ≤ n) (hn : n ≤ N) (r : Int) (hr : runS s 0 (n : Int) = r) (hrn : r < 0 ∨ (0 ≤ r ∧ (N : Int) < r + (n : Int) ∧ r ≤ 8000)) :
    Calls Try.prog 46 #[.pointer (some ⟨p, 0, none⟩), .int .i64 (n : Int)] w (FEnd w (if 8 < (packE ((freeL s N).take n)).length then [] else packE ((freeL s N).take n))) := by
  have HR := Lib.hid (show ∀ w, Calls Try.prog 21 #[.string s, .int .i64 0, .int .i64 (n : Int)] w fun e w' => e = .returned (.int .i64 r) ∧ Below w.heap.size w w' from fun w => by rw [← hr]; exact run_at s 0 n w (by omega) (by unfold I64; omega))
  have B0 := Lib.hid (show Below w.heap.size w ((w.alloc (.cells #[.int .i64 (n : Int)] 3 (0, 0))).alloc (.cells #[.slice none 0 0] 39 (0, 0))) from ((Below.refl _ _).alloc (Nat.le_refl _) _).alloc (by simp) _)
  have hPW := Lib.hid (lt_of_block hm)
  obtain ⟨i0, hi, hz0, hz1, hz2⟩ := info_parts info43
  have HI := Lib.hid (And.intro hi (And.intro hz0 (And.intro hz1 hz2)))
  clear hi hz0 hz1 hz2
  clear hr
  refine (callsIn_wide (n := 5)).1 (callsIn_of_wp_marks Try.func46 rfl trivial ?_ rfl)
  simp only [Try.ntmps46, List.size_toArray, List.length_cons, List.length_nil, Nat.reduceAdd, Nat.reduceSub, Array.replicate_succ, Array.replicate_zero, List.push_toArray, List.append_toArray, List.nil_append, List.cons_append]
  refine wpIn_wide.2 ?_
  obtain ⟨Q0, hQ0⟩ : ∃ Q0, Q0 = bodyPostM Fence.wide 5 Try.prog Try.f46 (FEnd w (if 8 < (packE ((freeL s N).take n)).length then [] else packE ((freeL s N).take n))) := ⟨_, rfl⟩
  rw [← hQ0]
  have HQ := Lib.hid hQ0
  clear hQ0
  go_wp2
  obtain ⟨W, hW⟩ : ∃ W, W = (w.alloc (.cells #[.int .i64 (n : Int)] 3 (0, 0))).alloc (.cells #[.slice none 0 0] 39 (0, 0)) := ⟨_, rfl⟩
  have hn0 : W.heap[w.heap.size]? = some (.cells #[.int .i64 (n : Int)] 3 (0, 0)) := by rw [hW, Below.heap_alloc _ _ _ (by simp)]; exact alloc_new _ _ _ rfl
  have hl0 : W.heap[w.heap.size + 1]? = some (.cells #[.slice none 0 0] 39 (0, 0)) := by rw [hW]; exact alloc_new _ _ _ (by simp)
  have B1 := B0.out
  rw [← hW] at B1 ⊢
  clear hW B0
  have hm1 := hm.keepB B1
  have cm : ∀ d os, (Go.Sort.grow (redrawn W d) os).cell? ⟨p, 1, none⟩ = some (.string s) := fun d os => (hm1.keepB (below_regrown W d os)).c1
  have cn : ∀ d os, (Go.Sort.grow (redrawn W d) os).cell? ⟨w.heap.size, 0, none⟩ = some (.int .i64 (n : Int)) := fun d os => by
    rw [block_cell (((below_regrown W d os).block _ (lt_of_block hn0)).trans hn0)]
    rfl
  refine wp_region_quiet_below (by kernel_rfl) (by kernel_rfl) ?_
  quiet_step (fail)
  quiet_step (fail)
  quiet_step (fail)
  quiet_step (fail)
  quiet_step (fail)
  quiet_step ((go_at_call 21; exact Calls.regrown_of (HR.out _)))
  quiet_step (fail)
  refine wpQuiet_nil ?_
  intro w1 hw'
  obtain ⟨pq, hw''⟩ := hw'
  have hB2 := below_regrown W pq.d pq.os
  have hm2 := hm1.keepB hB2
  have hn2 := (hB2.block _ (lt_of_block hn0)).trans hn0
  have hl2 := (hB2.block _ (lt_of_block hl0)).trans hl0
  have B2 := B1.trans (hB2.mono B1.size)
  rw [← hw''] at hm2 hn2 hl2 B2
  clear hw'' hB2 cm cn hm1 hn0 hl0 B1
  have c0 := hm2.c0
  have cn : w1.cell? ⟨w.heap.size, 0, none⟩ = some (.int .i64 (n : Int)) := by rw [block_cell hn2]; rfl
  rename_i K1 hK1 K2 hK2
  have HK := Lib.hid hK1
  clear hK1
  have tail : ∀ (x15 x16 x17 x18 x19 x20 x21 x22 x23 x24 : Value) (w3 : World), MapAt w3 p N s → Boxed w3 w.heap.size 3 (.int .i64 (n : Int)) → Boxed w3 (w.heap.size + 1) 39 (.slice none 0 0) → Below w.heap.size w w3 →
      K1 { tmps := #[.pointer (some ⟨p, 0, none⟩), .int .i64 (n : Int), undef, .pointer (some ⟨w.heap.size, 0, none⟩), .pointer (some ⟨w.heap.size + 1, 0, none⟩), .int .i64 r, undef, undef, .pointer (some ⟨p, 0, none⟩), .pointer (some ⟨p, 0, none⟩), .pointer (some ⟨p, 1, none⟩), .string s, .int .i64 (n : Int), .int .i64 r, .int .i64 r, x15, x16, x17, x18, x19, x20, x21, x22, x23, x24, .bool false, undef, undef, undef, undef, undef, undef, undef, undef, undef, undef, undef, undef, undef, undef, undef, undef, undef, undef, undef, undef, undef, undef, undef, undef, undef, undef, undef, undef, undef, undef, undef, undef, undef, undef, undef, undef, undef, undef, undef, undef, undef, undef, undef, undef, undef, undef, undef, undef], defers := [] } w3 := by
    intro x15 x16 x17 x18 x19 x20 x21 x22 x23 x24 w3 hm3 hn3 hl3 B3
    have hp := hPW.out
    have hs3 : w.heap.size + 2 ≤ w3.heap.size := hl3.lt
    refine HK.out _ _ ?_
    go_wp2_with (go_at_call 50; refine ((callsIn_wide (n := 5)).1 (free_in 5 p _)).mono ?_; rintro e w' ⟨rfl, rfl⟩)
    have bM : Boxed (w3.alloc (.cells #[.pointer (some ⟨p, 0, none⟩)] 35)) w3.heap.size 35 (.pointer (some ⟨p, 0, none⟩)) := Boxed.new _ _ _
    have B4 : Below w.heap.size w (w3.alloc (.cells #[.pointer (some ⟨p, 0, none⟩)] 35)) := B3.alloc B3.size _
    refine (wpIn_wide (n := 5)).1 ?_
    refine wpIn_rangeFunc_ownG (α := Fin N) (ps := #[32]) rfl (show 1 ≤ 5 from by decide) (gf := 51) (lb := #[.pointer (some ⟨w3.heap.size, 0, none⟩)]) rfl trivial (enters_of Try.func51 (by kernel_rfl) rfl)
      (free_stops 4 (by decide) p w3.heap.size N s (by omega) hN _ (hm3.keepB ((Below.refl _ _).alloc (Nat.le_refl _) _)) bM) (fun h k => KpM.trans h k) (fun W l o o' _ ho hc _ => KpM.putObj W l o o' ho hc) (Below.refl _ _) (fun _ => rfl)
      (fun (pre : List (Fin N)) W => pre.length ≤ n ∧ FI w p w3.heap.size ((n : Int) - (pre.length : Int)) (packE (valL pre)) W)
      (fun c (pre : List (Fin N)) W => (c = .exit 0 ∧ pre.length = n + 1) ∧ FI w p w3.heap.size 0 (packE ((valL pre).take n)) W)
      (fun pre A B row h hg hr => ⟨h.1, h.2.grown hg (fun r e => ⟨by have := (hr r e).1; simp at this; omega, (hr r e).2⟩)⟩)
      (fun c pre A B row h hg hr => ⟨h.1, h.2.grown hg (fun r e => ⟨by have := (hr r e).1; simp at this; omega, (hr r e).2⟩)⟩)
      ⟨Nat.zero_le _, by simpa using hn3.alloc _, ⟨_, hl3.alloc _, World.ownsRow_nil _ _ _ _⟩, bM, B4⟩
      (fun (x : Fin N) => { tmps := #[.pointer (some ⟨p, 0, none⟩), .int .i64 (n : Int), undef, .pointer (some ⟨w.heap.size, 0, none⟩), .pointer (some ⟨w.heap.size + 1, 0, none⟩), .int .i64 r, .int .i64 (x.val : Int), undef, .pointer (some ⟨p, 0, none⟩), .pointer (some ⟨p, 0, none⟩), .pointer (some ⟨p, 1, none⟩), .string s, .int .i64 (n : Int), .int .i64 r, .int .i64 r, x15, x16, x17, x18, x19, x20, x21, x22, x23, x24, .bool false, undef, undef, undef, undef, .pointer (some ⟨p, 0, none⟩), .func (.func 51) #[] #[.pointer (some ⟨w3.heap.size, 0, none⟩)], .int .i64 (x.val : Int), undef, undef, undef, undef, undef, undef, undef, undef, undef, undef, undef, undef, undef, undef, undef, undef, undef, undef, undef, undef, undef, undef, undef, undef, undef, undef, undef, undef, undef, undef, undef, undef, undef, undef, undef, undef, undef, undef, undef, undef, undef], defers := [] }) ?assign ?body ?done ?stop
    case assign =>
      intro l x W K hK
      gi_wp2
      exact hK
    case body =>
      rintro l pre x W ⟨hle, h⟩ hlen
      have cn := h.bn.cell
      have fn' := h.bn.frozen
      by_cases hk : pre.length = n
      · have e0 : (n : Int) - (pre.length : Int) = 0 := by omega
        rw [e0] at h cn
        gi_wp2
        refine ⟨KeepsFrom.refl _ _, ⟨rfl, by simp [hk]⟩, ?_⟩
        rw [valL_snoc, ← hk, ← valL_length pre, List.take_left]
        exact h
      · have hIN := Lib.hid (show ∀ y ∈ packE (valL pre), inE N y from packE_in N (valL pre) (valL_lt pre))
        have hLL := Lib.hid (show (packE (valL pre)).length ≤ n from Nat.le_trans (packE_length _) (by rw [valL_length]; exact hle))
        have hSN := Lib.hid (show packE (valL (pre ++ [x])) = stepE (packE (valL pre)) x.val from by rw [valL_snoc]; exact packE_snoc _ _)
        have hpl := Lib.hid (show (pre ++ [x]).length ≤ n ∧ (n : Int) - ((pre ++ [x]).length : Int) = (n : Int) - (pre.length : Int) - 1 from by simp; omega)
        obtain ⟨k, hkk⟩ : ∃ k : Int, (n : Int) - (pre.length : Int) = k := ⟨_, rfl⟩
        have k0 : 1 ≤ k := by omega
        have k1 : k ≤ 4096 := by omega
        rw [hkk] at h cn hpl
        have k2 : (k == 0) = false := beq_eq_false_iff_ne.mpr (by omega)
        have k3 : IntKind.i64.wrap (k - 1) = k - 1 := by rw [IntKind.wrap_i64]; omega
        clear hkk hle hlen hk
        generalize packE (valL pre) = L at *
        have xl := x.isLt
        have hB : w.heap.size ≤ (w3.alloc (.cells #[.pointer (some ⟨p, 0, none⟩)] 35)).heap.size := by simp; omega
        generalize (w3.alloc (.cells #[.pointer (some ⟨p, 0, none⟩)] 35)).heap.size = B at *
        obtain ⟨h1, st1⟩ := h.count (B := B) hp hs3 (k - 1)
        obtain ⟨v, b1, b2⟩ := h1.bl
        rcases List.eq_nil_or_concat L with rfl | ⟨M, y, hLc⟩
        · obtain ⟨o, c, rfl⟩ : ∃ o c, v = .slice o 0 c := by
            rcases b2.2 with ⟨e1, _⟩ | ⟨g, cap, _, e1, _⟩
            · exact ⟨_, _, e1⟩
            · exact ⟨_, _, e1⟩
          have cl := b1.cell
          gi_wp2
          generalize W.setCell ⟨w.heap.size, 0, none⟩ (.int .i64 (k - 1)) = W1 at *
          refine RQ.region_quiet_lit (by kernel_rfl) (by kernel_rfl) (by kernel_rfl) ?_
          quiet_step (fail)
          quiet_step (fail)
          quiet_step (fail)
          refine wpQuiet_skip (by kernel_rfl) ?_
          refine wpQuiet_skip (by kernel_rfl) ?_
          refine wpQuiet_skip (by kernel_rfl) ?_
          refine wpQuiet_skip (by kernel_rfl) ?_
          refine wpQuiet_skip (by kernel_rfl) ?_
          refine wpQuiet_skip (by kernel_rfl) ?_
          refine wpQuiet_skip (by kernel_rfl) ?_
          refine wpQuiet_skip (by kernel_rfl) ?_
          refine wpQuiet_skip (by kernel_rfl) ?_
          refine wpQuiet_skip (by kernel_rfl) ?_
          refine wpQuiet_skip (by kernel_rfl) ?_
          refine wpQuiet_skip (by kernel_rfl) ?_
          refine wpQuiet_skip (by kernel_rfl) ?_
          quiet_step (fail)
          refine wpQuiet_nil ?_
          intro _ hw'
          obtain ⟨nq, hw''⟩ := hw'
          subst hw''
          have h2 := h1.drewN nq
          replace b1 : Boxed (W1.drewN nq) (w.heap.size + 1) 39 (.slice o 0 c) := b1
          replace b2 : (W1.drewN nq).ownsRow w.heap.size 43 2 (.slice o 0 c) 0 (cellsE []) := b2
          replace cl : (W1.drewN nq).cell? ⟨w.heap.size + 1, 0, none⟩ = some (.slice o 0 c) := cl
          have HS2 := Lib.hid (Stp.drewN B p w3.heap.size W1 nq)
          generalize W1.drewN nq = W2 at *
          gi_wp2_with (gi_at_builtin; refine wpListIn_append_own _ rfl (.tmp 65) (.tmp 68) 39 rfl w.heap.size 43 i0 (.agg #[.int .i64 0, .int .i64 0]) 2 16 Try.underlying39 HI.out.1 HI.out.2.1 HI.out.2.2.1 HI.out.2.2.2 rfl (by decide) (.slice o 0 c) 0 (cellsE []) rfl (b2.alloc _) ⟨W2.heap.size, 0, none⟩ 1 1 (cellsE [((x.val : Int), 1)]) rfl rfl (newE_at W2 x.val 1) (cellsE_one _) (by have := hLL.out; unfold maxLen; simp only [List.length_nil] at this; omega) (by omega) (by have := h2.below.size; simp; omega) ?_; intro v' w' hown hgr hnil; obtain ⟨h3, st3, b3⟩ := h2.snoc (B := B) hp hs3 b1 hgr hown; have cl3 := b3.cell; have fl3 := b3.frozen; obtain ⟨g', cap', rfl⟩ := ownsRow_succ hown)
          refine ⟨(st1.trans (HS2.out.trans st3)).from', (st1.trans (HS2.out.trans st3)).kp, hpl.out.1, ?_⟩
          rw [hpl.out.2, hSN.out, stepE_new (by simp)]
          exact h3
        · rw [List.concat_eq_append] at hLc
          subst hLc
          obtain ⟨f, c⟩ := y
          obtain ⟨i1, i2, i3⟩ := hIN.out (f, c) (by simp)
          simp only at i1 i2 i3
          have hll := hLL.out
          rw [List.length_append, List.length_singleton] at hll
          obtain ⟨ln, hln⟩ : ∃ ln, ln = M.length + 1 := ⟨_, rfl⟩
          have HLN := Lib.hid (show ln = (M ++ [(f, c)]).length from by rw [List.length_append, List.length_singleton]; exact hln)
          rw [← HLN.out] at b2
          obtain ⟨g, cap, rfl⟩ : ∃ g cap, v = .slice (some ⟨g, 0, none⟩) ln cap := by
            rw [hln] at b2 ⊢
            exact ownsRow_succ b2
          have g0 := b2.cellAt (M.length * 2) (by omega)
          have g1 := b2.cellAt (M.length * 2 + 1) (by omega)
          have gf := b2.frozenAt (M.length * 2 + 1)
          obtain ⟨q0, q1⟩ := cellsE_get (M ++ [(f, c)]) M.length (f, c) (by simp)
          rw [q0, ← add_zero g (M.length * 2)] at g0
          rw [q1] at g1
          clear q0 q1
          have HA := Lib.hid (show (⟨((⟨g, 0, none⟩ : Addr).add (M.length * 2)).block, ((⟨g, 0, none⟩ : Addr).add (M.length * 2)).off + 1, none⟩ : Addr) = ⟨g, M.length * 2 + 1, none⟩ by rw [add_zero])
          rw [← HA.out] at g1 gf
          obtain ⟨a, ha⟩ : ∃ a, a = (⟨g, 0, none⟩ : Addr) := ⟨_, rfl⟩
          have HG := Lib.hid ha
          rw [← ha] at b1 b2 g0 g1 gf HA
          clear ha
          obtain ⟨m, hm⟩ : ∃ m, m = M.length := ⟨_, rfl⟩
          have HM := Lib.hid hm
          rw [← hm] at g0 g1 gf HA hln hll
          clear hm
          simp only at g0 g1
          have cl := b1.cell
          have e1 : IntKind.i64.wrap ((ln : Int) - 1) = (m : Int) := by rw [IntKind.wrap_i64]; omega
          have e2 : IntKind.i64.wrap (f + c) = f + c := by rw [IntKind.wrap_i64]; omega
          have e3 : IntKind.i64.wrap (c + 1) = c + 1 := by rw [IntKind.wrap_i64]; omega
          have e4 : (m : Int).toNat = m := by omega
          have e5 : (0 : Int) ≤ (m : Int) := by omega
          have e6 : (m : Int) < (ln : Int) := by omega
          have e8 : ln ≤ n := by omega
          have HLm := Lib.hid hln
          clear hln hll
          gi_wp2
          generalize W.setCell ⟨w.heap.size, 0, none⟩ (.int .i64 (k - 1)) = W1 at *
          by_cases hne : f + c = (x.val : Int)
          · have e7 : (f + c == (x.val : Int)) = true := beq_iff_eq.mpr hne
            have HNE := Lib.hid hne
            clear hne
            refine RQ.region_quiet_lit (by kernel_rfl) (by kernel_rfl) (by kernel_rfl) ?_
            quiet_step (fail)
            quiet_step (fail)
            quiet_step (fail)
            quiet_step (fail)
            quiet_step (fail)
            quiet_step (fail)
            quiet_step (fail)
            quiet_step (fail)
            quiet_step (fail)
            quiet_step (fail)
            quiet_step (fail)
            quiet_step (fail)
            quiet_step (fail)
            quiet_step (fail)
            quiet_step (fail)
            quiet_step (fail)
            quiet_step (fail)
            refine wpQuiet_nil ?_
            intro _ hw'
            obtain ⟨nq, hw''⟩ := hw'
            subst hw''
            have h2 := h1.drewN nq
            replace b1 : Boxed (W1.drewN nq) (w.heap.size + 1) 39 (.slice (some a) ln cap) := b1
            replace cl : (W1.drewN nq).cell? ⟨w.heap.size + 1, 0, none⟩ = some (.slice (some a) ln cap) := cl
            replace g1 : (W1.drewN nq).cell? ⟨(a.add (m * 2)).block, (a.add (m * 2)).off + 1, none⟩ = some (.int .i64 c) := g1
            replace gf : (W1.drewN nq).frozen? ⟨(a.add (m * 2)).block, (a.add (m * 2)).off + 1, none⟩ = false := gf
            have HS2 := Lib.hid (Stp.drewN B p w3.heap.size W1 nq)
            generalize W1.drewN nq = W2 at *
            gi_wp2
            obtain ⟨h3, st3⟩ := h2.more (B := B) hp hs3 (g := g) (cap := cap) (by rw [← HG.out, ← HM.out, ← HLm.out]; exact b1) (c + 1)
            refine ⟨(st1.trans (HS2.out.trans (by rw [HA.out, HM.out]; exact st3))).from', (st1.trans (HS2.out.trans (by rw [HA.out, HM.out]; exact st3))).kp, hpl.out.1, ?_⟩
            rw [hpl.out.2, hSN.out, stepE_more _ _ _ _ HNE.out, HA.out, HM.out]
            exact h3
          · have e7 : (f + c == (x.val : Int)) = false := beq_eq_false_iff_ne.mpr hne
            refine RQ.region_quiet_lit (by kernel_rfl) (by kernel_rfl) (by kernel_rfl) ?_
            quiet_step (fail)
            quiet_step (fail)
            quiet_step (fail)
            quiet_step (fail)
            quiet_step (fail)
            quiet_step (fail)
            quiet_step (fail)
            quiet_step (fail)
            quiet_step (fail)
            quiet_step (fail)
            quiet_step (fail)
            quiet_step (fail)
            quiet_step (fail)
            quiet_step (fail)
            quiet_step (fail)
            quiet_step (fail)
            quiet_step (fail)
            refine wpQuiet_nil ?_
            intro _ hw'
            obtain ⟨nq, hw''⟩ := hw'
            subst hw''
            have h2 := h1.drewN nq
            replace b1 : Boxed (W1.drewN nq) (w.heap.size + 1) 39 (.slice (some a) ln cap) := b1
            replace b2 : (W1.drewN nq).ownsRow w.heap.size 43 2 (.slice (some a) ln cap) ln (cellsE (M ++ [(f, c)])) := b2
            replace cl : (W1.drewN nq).cell? ⟨w.heap.size + 1, 0, none⟩ = some (.slice (some a) ln cap) := cl
            have HS2 := Lib.hid (Stp.drewN B p w3.heap.size W1 nq)
            generalize W1.drewN nq = W2 at *
            gi_wp2_with (gi_at_builtin; refine wpListIn_append_own _ rfl (.tmp 65) (.tmp 68) 39 rfl w.heap.size 43 i0 (.agg #[.int .i64 0, .int .i64 0]) 2 16 Try.underlying39 HI.out.1 HI.out.2.1 HI.out.2.2.1 HI.out.2.2.2 rfl (by decide) (.slice (some a) ln cap) ln (cellsE (M ++ [(f, c)])) rfl (b2.alloc _) ⟨W2.heap.size, 0, none⟩ 1 1 (cellsE [((x.val : Int), 1)]) rfl rfl (newE_at W2 x.val 1) (cellsE_one _) (by unfold maxLen; omega) (by omega) (by have := h2.below.size; simp; omega) ?_; intro v' w' hown hgr hnil; obtain ⟨h3, st3, b3⟩ := h2.snoc (B := B) hp hs3 b1 hgr (by rw [← HLN.out]; exact hown); have cl3 := b3.cell; have fl3 := b3.frozen; obtain ⟨g', cap', rfl⟩ := ownsRow_succ hown)
            refine ⟨(st1.trans (HS2.out.trans st3)).from', (st1.trans (HS2.out.trans st3)).kp, hpl.out.1, ?_⟩
            rw [hpl.out.2, hSN.out, stepE_new (by intro z hz; rw [List.getLast?_append] at hz; simp at hz; subst hz; exact hne)]
            exact h3
    case done =>
      rintro D ys W hD hys ⟨hle, h⟩ hK
      have hys' : valL ys = freeL s N := hys
      have hyt : (freeL s N).take n = freeL s N := List.take_of_length_le (by rw [← hys', valL_length]; exact hle)
      rw [hys', ← hyt] at h
      clear hys hys' hyt hle
      have hDw : w.heap.size ≤ D := by simp at hD; omega
      obtain ⟨L, hL⟩ : ∃ L, L = packE ((freeL s N).take n) := ⟨_, rfl⟩
      have HQ2 := Lib.hid HQ.out
      rw [← hL] at h HQ2
      clear hL
      obtain ⟨v, b1, b2⟩ := h.bl
      obtain ⟨o, cc, rfl⟩ : ∃ o cc, v = .slice o L.length cc := (ExRow_of_own b2).form
      have cl := b1.cell
      have fl := b1.frozen
      by_cases h8 : 8 < L.length
      · have d8 : (8 : Int) < (L.length : Int) := by omega
        gi_wp2
        go_wp2
        obtain ⟨c5, h5⟩ := (h.putl hs3 (v' := .slice none 0 0) (L' := []) (World.ownsRow_nil _ _ _ _)).fin ((KeepsOthers.setCell W ⟨w.heap.size + 1, 0, none⟩ (.slice none 0 0)).same D _ hK rfl) hDw (b1.set _)
        rw [HQ2.out, if_pos h8]
        refine ⟨by simp, .inl ⟨_, _, rfl, run_takeDeferred ((KeepsOthers.setCell W ⟨w.heap.size + 1, 0, none⟩ (.slice none 0 0)).same D _ hK rfl), ?_⟩⟩
        exact ⟨_, (by simp [results, Try.f46, go_sem, c5]), h5⟩
      · have d8 : ¬ (8 : Int) < (L.length : Int) := by omega
        gi_wp2
        go_wp2
        obtain ⟨c5, h5⟩ := (h.putl hs3 b2).fin ((KeepsOthers.setCell W ⟨w.heap.size + 1, 0, none⟩ (.slice o L.length cc)).same D _ hK rfl) hDw (b1.set _)
        rw [HQ2.out, if_neg h8]
        refine ⟨by simp, .inl ⟨_, _, rfl, run_takeDeferred ((KeepsOthers.setCell W ⟨w.heap.size + 1, 0, none⟩ (.slice o L.length cc)).same D _ hK rfl), ?_⟩⟩
        exact ⟨_, (by simp [results, Try.f46, go_sem, c5]), h5⟩
    case stop =>
      rintro D c pre W hD hpre ⟨⟨rfl, hl⟩, h⟩ hK
      have hys' : valL pre <+: freeL s N := hpre
      have hyt : (valL pre).take n = (freeL s N).take n := by
        obtain ⟨t, ht⟩ := hys'
        rw [← ht, List.take_append_of_le_length (by rw [valL_length]; omega)]
      rw [hyt] at h
      clear hpre hys' hyt hl
      have hDw : w.heap.size ≤ D := by simp at hD; omega
      obtain ⟨L, hL⟩ : ∃ L, L = packE ((freeL s N).take n) := ⟨_, rfl⟩
      have HQ2 := Lib.hid HQ.out
      rw [← hL] at h HQ2
      clear hL
      obtain ⟨v, b1, b2⟩ := h.bl
      obtain ⟨o, cc, rfl⟩ : ∃ o cc, v = .slice o L.length cc := (ExRow_of_own b2).form
      have cl := b1.cell
      have fl := b1.frozen
      by_cases h8 : 8 < L.length
      · have d8 : (8 : Int) < (L.length : Int) := by omega
        gi_wp2
        go_wp2
        obtain ⟨c5, h5⟩ := (h.putl hs3 (v' := .slice none 0 0) (L' := []) (World.ownsRow_nil _ _ _ _)).fin ((KeepsOthers.setCell W ⟨w.heap.size + 1, 0, none⟩ (.slice none 0 0)).same D _ hK rfl) hDw (b1.set _)
        rw [HQ2.out, if_pos h8]
        refine ⟨by simp, .inl ⟨_, _, rfl, run_takeDeferred ((KeepsOthers.setCell W ⟨w.heap.size + 1, 0, none⟩ (.slice none 0 0)).same D _ hK rfl), ?_⟩⟩
        exact ⟨_, (by simp [results, Try.f46, go_sem, c5]), h5⟩
      · have d8 : ¬ (8 : Int) < (L.length : Int) := by omega
        gi_wp2
        go_wp2
        obtain ⟨c5, h5⟩ := (h.putl hs3 b2).fin ((KeepsOthers.setCell W ⟨w.heap.size + 1, 0, none⟩ (.slice o L.length cc)).same D _ hK rfl) hDw (b1.set _)
        rw [HQ2.out, if_neg h8]
        refine ⟨by simp, .inl ⟨_, _, rfl, run_takeDeferred ((KeepsOthers.setCell W ⟨w.heap.size + 1, 0, none⟩ (.slice o L.length cc)).same D _ hK rfl), ?_⟩⟩
        exact ⟨_, (by simp [results, Try.f46, go_sem, c5]), h5⟩
  rcases hrn with d1 | ⟨d1, d2, d3⟩
  · have d4 : decide ((0 : Int) ≤ r) = false := decide_eq_false (by omega)
    clear d1
    go_wp2
    refine wp_region_quiet_lit (by kernel_rfl) (by kernel_rfl) ?_
    quiet_step (fail)
    quiet_step (fail)
    quiet_step (fail)
    refine wpQuiet_skip (by kernel_rfl) ?_
    refine wpQuiet_skip (by kernel_rfl) ?_
    refine wpQuiet_skip (by kernel_rfl) ?_
    refine wpQuiet_skip (by kernel_rfl) ?_
    refine wpQuiet_skip (by kernel_rfl) ?_
    refine wpQuiet_skip (by kernel_rfl) ?_
    refine wpQuiet_skip (by kernel_rfl) ?_
    refine wpQuiet_skip (by kernel_rfl) ?_
    quiet_step (fail)
    refine wpQuiet_nil ?_
    intro _ hw'
    obtain ⟨nq, hw''⟩ := hw'
    subst hw''
    go_wp2
    exact tail _ _ _ _ _ _ _ _ _ _ _ hm2 hn2 hl2 (B2.trans ((pw_below_drewN (Below.refl _ _) nq).mono B2.size))
  · have e2 : IntKind.i64.wrap (r + (n : Int)) = r + (n : Int) := by rw [IntKind.wrap_i64]; omega
    have e3 : decide (r + (n : Int) ≤ (N : Int)) = false := decide_eq_false (by omega)
    clear d2 d3
    go_wp2
    refine wp_region_quiet_lit (by kernel_rfl) (by kernel_rfl) ?_
    quiet_step (fail)
    quiet_step (fail)
    quiet_step (fail)
    quiet_step (fail)
    quiet_step (fail)
    quiet_step (fail)
    quiet_step (fail)
    quiet_step (fail)
    quiet_step (fail)
    quiet_step (fail)
    quiet_step (fail)
    quiet_step (fail)
    refine wpQuiet_nil ?_
    intro _ hw'
    obtain ⟨nq, hw''⟩ := hw'
    subst hw''
    go_wp2
    exact tail _ _ _ _ _ _ _ _ _ _ _ hm2 hn2 hl2 (B2.trans ((pw_below_drewN (Below.refl _ _) nq).mono B2.size))
end Go.Proofs.Ytidnkckfkgaooaa.Al
