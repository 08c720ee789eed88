/- The plain Lean functions of the given program's functions, and that the calls answer as they do. Written by a program of this session out of the translation. -/
import Derived.Test.YtidnkckfkgaooaaQ0
import Derived.Test.YtidnkckfkgaooaaQ1
import Derived.Test.YtidnkckfkgaooaaQ2
namespace Go.Proofs.Ytidnkckfkgaooaa.Q
open Go.RowKit Go.Proofs.YtidnkckfkgaooaaW.PrintWords Go.Proofs.YtidnkckfkgaooaaW.PrintLast Go.Proofs.YtidnkckfkgaooaaW.PrintMore
attribute [local go_sem] max2_int min2_int max_two min_two max_three min_three max_four min_four   -- for this text's walks alone
set_option linter.unusedVariables false
set_option linter.unusedSimpArgs false

/-! ### lighterlaw02_BitsMap: function 4 -/
mutual
def lighterlaw02_BitsMap.l0 : Nat → ByteArray → Int → Int → Int → Option (Bool)
  | 0, _, _, _, _ => none
  | k + 1, x0, x1, x2, x7 => if x7 < 4 then (if x7 > 0 then (lighterlaw02_BitsMap.j1 k x0 x1 x2 x7 (wrap64 (Int.tdiv (wrap64 ((Go.bits .and .i64 x1 255) * x7)) 3)) (wrap64 (1 + (wrap64 (Int.tdiv (wrap64 ((Go.bits .and .i64 x2 15) * x7)) 2))))) else (lighterlaw02_BitsMap.j1 k x0 x1 x2 x7 x1 x2)) else ((bits_Count.f k x0).bind fun t129 => ((lighterref02_Count.f k x0).bind fun t130 => (if t129 = t130 then ((lighterlaw02_shown.f k).bind fun t131 => (some t131)) else (some false))))
def lighterlaw02_BitsMap.j1 : Nat → ByteArray → Int → Int → Int → Int → Int → Option (Bool)
  | 0, _, _, _, _, _, _ => none
  | k + 1, x0, x1, x2, x7, x8, x9 => (bits_Has.f x0 x8).bind fun t132 => ((lighterref02_Has.f k x0 x8).bind fun t133 => (if (t132 != t133) = true then (some false) else ((bits_With.f x0 x8 true).bind fun t134 => ((lighterref02_With.f k x0 x8 true).bind fun t135 => (if t134.toList = t135.toList then ((bits_With.f x0 x8 false).bind fun t136 => ((lighterref02_With.f k x0 x8 false).bind fun t137 => (if t136.toList = t137.toList then ((bits_Run.f x0 x8 x9).bind fun t138 => ((lighterref02_Run.f k x0 x8 x9).bind fun t139 => (if t138 = t139 then (lighterlaw02_BitsMap.l0 k x0 x1 x2 (wrap64 (x7 + 1))) else (some false)))) else (some false)))) else (some false))))))
end
def lighterlaw02_BitsMap.f (k : Nat) (a0 : ByteArray) (a1 : Int) (a2 : Int) : Option (Bool) := if (a0.size : Int) > 30 then ((lighterlaw02_shown.f k).bind fun t128 => (some t128)) else (lighterlaw02_BitsMap.l0 k a0 a1 a2 0)
theorem lighterlaw02_BitsMap.mono_l : ∀ k, (∀ y0 y1 y2 y3, LeO (lighterlaw02_BitsMap.l0 k y0 y1 y2 y3) (lighterlaw02_BitsMap.l0 (k + 1) y0 y1 y2 y3)) ∧ (∀ y0 y1 y2 y3 y4 y5, LeO (lighterlaw02_BitsMap.j1 k y0 y1 y2 y3 y4 y5) (lighterlaw02_BitsMap.j1 (k + 1) y0 y1 y2 y3 y4 y5))
  | 0 => ⟨fun _ _ _ _ r h => by simp [lighterlaw02_BitsMap.l0] at h, fun _ _ _ _ _ _ r h => by simp [lighterlaw02_BitsMap.j1] at h⟩
  | k + 1 => by
    obtain ⟨ih0, ih1⟩ := lighterlaw02_BitsMap.mono_l k
    refine ⟨?_, ?_⟩
    · intro y0 y1 y2 y3
      unfold lighterlaw02_BitsMap.l0
      repeat' first
      | (with_reducible exact ih0 _ _ _ _)
      | (with_reducible exact ih1 _ _ _ _ _ _)
      | (with_reducible exact bits_Count.mono _ _)
      | (with_reducible exact lighterlaw02_shown.mono _)
      | (with_reducible exact lighterref02_Count.mono _ _)
      | (with_reducible exact lighterref02_Has.mono _ _ _)
      | (with_reducible exact lighterref02_Run.mono _ _ _ _)
      | (with_reducible exact lighterref02_With.mono _ _ _ _)
      | (with_reducible exact LeO.refl _)
      | (with_reducible exact LeO.none _)
      | (with_reducible refine LeO.ite ?_ ?_)
      | (with_reducible refine LeO.bind ?_ (fun _ => ?_))
      | exact ih0 _ _ _ _
      | exact ih1 _ _ _ _ _ _
      | exact bits_Count.mono _ _
      | exact lighterlaw02_shown.mono _
      | exact lighterref02_Count.mono _ _
      | exact lighterref02_Has.mono _ _ _
      | exact lighterref02_Run.mono _ _ _ _
      | exact lighterref02_With.mono _ _ _ _
      | exact LeO.none _
      | refine LeO.ite ?_ ?_
      | refine LeO.bind ?_ (fun _ => ?_)
    · intro y0 y1 y2 y3 y4 y5
      unfold lighterlaw02_BitsMap.j1
      repeat' first
      | (with_reducible exact ih0 _ _ _ _)
      | (with_reducible exact ih1 _ _ _ _ _ _)
      | (with_reducible exact bits_Count.mono _ _)
      | (with_reducible exact lighterlaw02_shown.mono _)
      | (with_reducible exact lighterref02_Count.mono _ _)
      | (with_reducible exact lighterref02_Has.mono _ _ _)
      | (with_reducible exact lighterref02_Run.mono _ _ _ _)
      | (with_reducible exact lighterref02_With.mono _ _ _ _)
      | (with_reducible exact LeO.refl _)
      | (with_reducible exact LeO.none _)
      | (with_reducible refine LeO.ite ?_ ?_)
      | (with_reducible refine LeO.bind ?_ (fun _ => ?_))
      | exact ih0 _ _ _ _
      | exact ih1 _ _ _ _ _ _
      | exact bits_Count.mono _ _
      | exact lighterlaw02_shown.mono _
      | exact lighterref02_Count.mono _ _
      | exact lighterref02_Has.mono _ _ _
      | exact lighterref02_Run.mono _ _ _ _
      | exact lighterref02_With.mono _ _ _ _
      | exact LeO.none _
      | refine LeO.ite ?_ ?_
      | refine LeO.bind ?_ (fun _ => ?_)
theorem lighterlaw02_BitsMap.mono : ∀ a0 a1 a2 k, LeO (lighterlaw02_BitsMap.f k a0 a1 a2) (lighterlaw02_BitsMap.f (k + 1) a0 a1 a2) := by
  intro a0 a1 a2 k
  obtain ⟨ih0, ih1⟩ := lighterlaw02_BitsMap.mono_l k
  unfold lighterlaw02_BitsMap.f
  repeat' first
      | (with_reducible exact ih0 _ _ _ _)
      | (with_reducible exact ih1 _ _ _ _ _ _)
      | (with_reducible exact bits_Count.mono _ _)
      | (with_reducible exact lighterlaw02_shown.mono _)
      | (with_reducible exact lighterref02_Count.mono _ _)
      | (with_reducible exact lighterref02_Has.mono _ _ _)
      | (with_reducible exact lighterref02_Run.mono _ _ _ _)
      | (with_reducible exact lighterref02_With.mono _ _ _ _)
      | (with_reducible exact LeO.refl _)
      | (with_reducible exact LeO.none _)
      | (with_reducible refine LeO.ite ?_ ?_)
      | (with_reducible refine LeO.bind ?_ (fun _ => ?_))
      | exact ih0 _ _ _ _
      | exact ih1 _ _ _ _ _ _
      | exact bits_Count.mono _ _
      | exact lighterlaw02_shown.mono _
      | exact lighterref02_Count.mono _ _
      | exact lighterref02_Has.mono _ _ _
      | exact lighterref02_Run.mono _ _ _ _
      | exact lighterref02_With.mono _ _ _ _
      | exact LeO.none _
      | refine LeO.ite ?_ ?_
      | refine LeO.bind ?_ (fun _ => ?_)
set_option maxHeartbeats 8000000 in
set_option maxRecDepth 100000 in
theorem lighterlaw02_BitsMap.calls (k : Nat) (a0 : ByteArray) (a1 : Int) (a2 : Int) (r : Bool) (w : World) (h : lighterlaw02_BitsMap.f k a0 a1 a2 = some r) :
    Calls Try.prog 4 #[.string a0, .int .i64 a1, .int .i64 a2] w fun e w' => e = .returned (.bool r) ∧ Below w.heap.size w w' := by
  have HB := Aside0.mk (Below.refl w.heap.size w)
  have H : (if (a0.size : Int) > 30 then ((lighterlaw02_shown.f k).bind fun t128 => (some t128)) else (lighterlaw02_BitsMap.l0 k a0 a1 a2 0)) = some r := h
  clear h
  by_cases c4 : (a0.size : Int) > 30
  · rw [if_pos c4] at H
    have c4b0 : decide (30 < (a0.size : Int)) = true := decide_eq_true c4
    have c4b1 : decide (30 < a0.size) = true := decide_eq_true (by omega)
    clear c4
    replace H := Option.bind_eq_some_iff.mp H
    obtain ⟨t128, A50, H⟩ := H
    replace H : (some t128) = some r := H
    have A5 := Aside0.mk A50
    clear A50
    obtain rfl := Option.some.inj H
    go_enter Try.func4, Try.ntmps4
    go_wp2_with (first | ((with_reducible refine gate_callee (f := 12) rfl ?_); refine goesL_ (some 13) rfl rfl Try.func12 (by kernel_rfl) rfl #[] rfl (by (try simp only [List.map_toArray, List.map_cons, List.map_nil]); first | done | rfl | (simp only [List.length_drop, List.length_take]; rfl)) ?_; (with_reducible refine (lighterlaw02_shown.calls k  t128 _ A5.out).mono ?_); rintro e w6 ⟨rfl, hb⟩; refine ⟨_, rfl, ?_⟩; have n0_ := Aside0.mk (below_step (by repeat (first | (with_reducible first | exact HB.out | apply below_alloc | apply pw_below_drewN | apply below_drew1) | exact HB.out)) hb); clear HB; have HB := n0_; clear n0_; (try clear hb); (try clear hb2); (try clear hk); (try clear hi)))
    go_ret
    exact ⟨by first | rfl | (simp [errW_none, errW_some] <;> rfl) | (simp [*, errW_none, errW_some] <;> rfl), by repeat (first | (with_reducible first | exact HB.out | apply below_alloc | apply pw_below_drewN | apply below_drew1) | exact HB.out)⟩
  · rw [if_neg c4] at H
    have c4b0 : decide (30 < (a0.size : Int)) = false := decide_eq_false c4
    have c4b1 : decide (30 < a0.size) = false := decide_eq_false (by omega)
    clear c4
    have H' := Aside0.mk H
    clear H
    go_enter Try.func4, Try.ntmps4
    go_wp2
    go_loopg [7] k (fun kq v7 w' => ∃ (x7_1 : Int), v7 = .int .i64 x7_1 ∧ Aside0 (lighterlaw02_BitsMap.l0 kq a0 a1 a2 x7_1 = some r) ∧ Aside0 (kq ≤ k) ∧ Aside0 (Below w.heap.size w w'))
    case atStart => exact ⟨(0), (by first | rfl | (simp; done) | (simp [*]; done)), H', ⟨Nat.le_refl _⟩, ⟨by repeat (first | (with_reducible first | exact HB.out | apply below_alloc | apply pw_below_drewN | apply below_drew1) | exact HB.out)⟩⟩
    case round =>
      clear H'
      try clear c1
      try clear p2
      try clear c4
      try clear c4b0
      try clear c4b1
      obtain ⟨x7_1, rfl, HA, HK1, HB⟩ := hrel
      cases gk with
      | zero => exact absurd HA.out (by simp [lighterlaw02_BitsMap.l0])
      | succ k1 =>
        have H := HA.out
        clear HA
        simp only [lighterlaw02_BitsMap.l0] at H
        by_cases c7 : x7_1 < 4
        · rw [if_pos c7] at H
          have c7b0 : decide (x7_1 < 4) = true := decide_eq_true c7
          clear c7
          have HC8 := Aside0.mk H
          clear H
          go_upto_if 21 with (fail)
          go_cut [8, 9] (fun v8 v9 wc => ∃ (kq : Nat) (x8_7 : Int) (x9_7 : Int), v8 = .int .i64 x8_7 ∧ v9 = .int .i64 x9_7 ∧ Aside0 (lighterlaw02_BitsMap.j1 kq a0 a1 a2 x7_1 x8_7 x9_7 = some r) ∧ Aside0 (kq ≤ k1) ∧ Aside0 (Below w.heap.size w wc))
          case first =>
            have H := HC8.out
            clear HC8
            by_cases c9 : x7_1 > 0
            · rw [if_pos c9] at H
              have c9b0 : decide (0 < x7_1) = true := decide_eq_true c9
              clear c9
              (first | rw [c9b0] | (simp only [i64_w, i32_w]; rw [c9b0]) | skip)
              have H' := Aside0.mk H
              clear H
              go_wp2
              go_meet
              case rel => exact ⟨_, (wrap64 (Int.tdiv (wrap64 ((Go.bits .and .i64 a1 255) * x7_1)) 3)), (wrap64 (1 + (wrap64 (Int.tdiv (wrap64 ((Go.bits .and .i64 a2 15) * x7_1)) 2)))), (by first | rfl | (simp; done) | (simp [*]; done)), (by first | rfl | (simp; done) | (simp [*]; done)), H', ⟨by have := HK1.out; first | omega | exact Nat.le_refl _⟩, ⟨by repeat (first | (with_reducible first | exact HB.out | apply below_alloc | apply pw_below_drewN | apply below_drew1) | exact HB.out)⟩⟩
            · rw [if_neg c9] at H
              have c9b0 : decide (0 < x7_1) = false := decide_eq_false c9
              clear c9
              (first | rw [c9b0] | (simp only [i64_w, i32_w]; rw [c9b0]) | skip)
              have H' := Aside0.mk H
              clear H
              go_wp2
              go_meet
              case rel => exact ⟨_, (a1), (a2), (by first | rfl | (simp; done) | (simp [*]; done)), (by first | rfl | (simp; done) | (simp [*]; done)), H', ⟨by have := HK1.out; first | omega | exact Nat.le_refl _⟩, ⟨by repeat (first | (with_reducible first | exact HB.out | apply below_alloc | apply pw_below_drewN | apply below_drew1) | exact HB.out)⟩⟩
          case rest =>
            clear HC8
            try clear c1
            try clear p2
            try clear c4
            try clear c4b0
            try clear c4b1
            try clear p6
            try clear c7
            try clear c7b0
            try clear c9
            try clear c9b0
            try clear p2
            obtain ⟨kq, x8_7, x9_7, rfl, rfl, HA, HJ7, HB⟩ := hcut
            cases kq with
            | zero => exact absurd HA.out (by simp [lighterlaw02_BitsMap.j1])
            | succ kj7 =>
              have H := HA.out
              clear HA
              simp only [lighterlaw02_BitsMap.j1] at H
              replace H := Option.bind_eq_some_iff.mp H
              obtain ⟨t132, A100, H⟩ := H
              replace H : ((lighterref02_Has.f kj7 a0 x8_7).bind fun t133 => (if (t132 != t133) = true then (some false) else ((bits_With.f a0 x8_7 true).bind fun t134 => ((lighterref02_With.f kj7 a0 x8_7 true).bind fun t135 => (if t134.toList = t135.toList then ((bits_With.f a0 x8_7 false).bind fun t136 => ((lighterref02_With.f kj7 a0 x8_7 false).bind fun t137 => (if t136.toList = t137.toList then ((bits_Run.f a0 x8_7 x9_7).bind fun t138 => ((lighterref02_Run.f kj7 a0 x8_7 x9_7).bind fun t139 => (if t138 = t139 then (lighterlaw02_BitsMap.l0 kj7 a0 a1 a2 (wrap64 (x7_1 + 1))) else (some false)))) else (some false)))) else (some false)))))) = some r := H
              have A10 := Aside0.mk A100
              clear A100
              replace H := Option.bind_eq_some_iff.mp H
              obtain ⟨t133, A110, H⟩ := H
              replace H : (if (t132 != t133) = true then (some false) else ((bits_With.f a0 x8_7 true).bind fun t134 => ((lighterref02_With.f kj7 a0 x8_7 true).bind fun t135 => (if t134.toList = t135.toList then ((bits_With.f a0 x8_7 false).bind fun t136 => ((lighterref02_With.f kj7 a0 x8_7 false).bind fun t137 => (if t136.toList = t137.toList then ((bits_Run.f a0 x8_7 x9_7).bind fun t138 => ((lighterref02_Run.f kj7 a0 x8_7 x9_7).bind fun t139 => (if t138 = t139 then (lighterlaw02_BitsMap.l0 kj7 a0 a1 a2 (wrap64 (x7_1 + 1))) else (some false)))) else (some false)))) else (some false))))) = some r := H
              have A11 := Aside0.mk A110
              clear A110
              by_cases c12 : (t132 != t133) = true
              · rw [if_pos c12] at H
                have c12b0 : (t132 != t133) = true := c12
                (try (have c12b1 : decide (t132 = t133) = false := by simpa using c12))
                (try (have c12b2 : (t132 == t133) = false := by simpa using c12))
                (try (have c12b3 : ¬ (t132 = t133) := by simpa using c12))
                clear c12
                obtain rfl := Option.some.inj H
                go_wp2_with (first | ((with_reducible refine gate_callee (f := 17) rfl ?_); refine goesL_ (some 35) rfl rfl Try.func17 (by kernel_rfl) rfl #[.string a0, .int .i64 x8_7] rfl (by (try simp only [List.map_toArray, List.map_cons, List.map_nil]); first | done | rfl | (simp only [List.length_drop, List.length_take]; rfl)) ?_; (with_reducible refine (bits_Has.calls a0 x8_7 t132 _ A10.out).mono ?_); rintro e w' ⟨rfl, ⟨nd, rfl⟩⟩; refine ⟨_, rfl, ?_⟩) | ((with_reducible refine gate_callee (f := 18) rfl ?_); refine goesL_ (some 38) rfl rfl Try.func18 (by kernel_rfl) rfl #[.string a0, .int .i64 x8_7] rfl (by (try simp only [List.map_toArray, List.map_cons, List.map_nil]); first | done | rfl | (simp only [List.length_drop, List.length_take]; rfl)) ?_; (with_reducible refine (lighterref02_Has.calls kj7 a0 x8_7 t133 _ A11.out).mono ?_); rintro e w' ⟨rfl, ⟨nd, rfl⟩⟩; refine ⟨_, rfl, ?_⟩))
                go_ret
                exact ⟨by first | rfl | (simp [errW_none, errW_some] <;> rfl) | (simp [*, errW_none, errW_some] <;> rfl), by repeat (first | (with_reducible first | exact HB.out | apply below_alloc | apply pw_below_drewN | apply below_drew1) | exact HB.out)⟩
              · rw [if_neg c12] at H
                have c12b0 : (t132 != t133) = false := by simpa using c12
                (try (have c12b1 : decide (t132 = t133) = true := by simpa using c12))
                (try (have c12b2 : (t132 == t133) = true := by simpa using c12))
                clear c12
                replace H := Option.bind_eq_some_iff.mp H
                obtain ⟨t134, A130, H⟩ := H
                replace H : ((lighterref02_With.f kj7 a0 x8_7 true).bind fun t135 => (if t134.toList = t135.toList then ((bits_With.f a0 x8_7 false).bind fun t136 => ((lighterref02_With.f kj7 a0 x8_7 false).bind fun t137 => (if t136.toList = t137.toList then ((bits_Run.f a0 x8_7 x9_7).bind fun t138 => ((lighterref02_Run.f kj7 a0 x8_7 x9_7).bind fun t139 => (if t138 = t139 then (lighterlaw02_BitsMap.l0 kj7 a0 a1 a2 (wrap64 (x7_1 + 1))) else (some false)))) else (some false)))) else (some false))) = some r := H
                have A13 := Aside0.mk A130
                clear A130
                replace H := Option.bind_eq_some_iff.mp H
                obtain ⟨t135, A140, H⟩ := H
                replace H : (if t134.toList = t135.toList then ((bits_With.f a0 x8_7 false).bind fun t136 => ((lighterref02_With.f kj7 a0 x8_7 false).bind fun t137 => (if t136.toList = t137.toList then ((bits_Run.f a0 x8_7 x9_7).bind fun t138 => ((lighterref02_Run.f kj7 a0 x8_7 x9_7).bind fun t139 => (if t138 = t139 then (lighterlaw02_BitsMap.l0 kj7 a0 a1 a2 (wrap64 (x7_1 + 1))) else (some false)))) else (some false)))) else (some false)) = some r := H
                have A14 := Aside0.mk A140
                clear A140
                by_cases c15 : t134.toList = t135.toList
                · rw [if_pos c15] at H
                  have c15b0 : (t134.toList == t135.toList) = true := beq_iff_eq.mpr c15
                  have c15b1 : (t134.toList != t135.toList) = false := bne_eq_false_iff_eq.mpr c15
                  clear c15
                  replace H := Option.bind_eq_some_iff.mp H
                  obtain ⟨t136, A160, H⟩ := H
                  replace H : ((lighterref02_With.f kj7 a0 x8_7 false).bind fun t137 => (if t136.toList = t137.toList then ((bits_Run.f a0 x8_7 x9_7).bind fun t138 => ((lighterref02_Run.f kj7 a0 x8_7 x9_7).bind fun t139 => (if t138 = t139 then (lighterlaw02_BitsMap.l0 kj7 a0 a1 a2 (wrap64 (x7_1 + 1))) else (some false)))) else (some false))) = some r := H
                  have A16 := Aside0.mk A160
                  clear A160
                  replace H := Option.bind_eq_some_iff.mp H
                  obtain ⟨t137, A170, H⟩ := H
                  replace H : (if t136.toList = t137.toList then ((bits_Run.f a0 x8_7 x9_7).bind fun t138 => ((lighterref02_Run.f kj7 a0 x8_7 x9_7).bind fun t139 => (if t138 = t139 then (lighterlaw02_BitsMap.l0 kj7 a0 a1 a2 (wrap64 (x7_1 + 1))) else (some false)))) else (some false)) = some r := H
                  have A17 := Aside0.mk A170
                  clear A170
                  by_cases c18 : t136.toList = t137.toList
                  · rw [if_pos c18] at H
                    have c18b0 : (t136.toList == t137.toList) = true := beq_iff_eq.mpr c18
                    have c18b1 : (t136.toList != t137.toList) = false := bne_eq_false_iff_eq.mpr c18
                    clear c18
                    replace H := Option.bind_eq_some_iff.mp H
                    obtain ⟨t138, A190, H⟩ := H
                    replace H : ((lighterref02_Run.f kj7 a0 x8_7 x9_7).bind fun t139 => (if t138 = t139 then (lighterlaw02_BitsMap.l0 kj7 a0 a1 a2 (wrap64 (x7_1 + 1))) else (some false))) = some r := H
                    have A19 := Aside0.mk A190
                    clear A190
                    replace H := Option.bind_eq_some_iff.mp H
                    obtain ⟨t139, A200, H⟩ := H
                    replace H : (if t138 = t139 then (lighterlaw02_BitsMap.l0 kj7 a0 a1 a2 (wrap64 (x7_1 + 1))) else (some false)) = some r := H
                    have A20 := Aside0.mk A200
                    clear A200
                    by_cases c21 : t138 = t139
                    · rw [if_pos c21] at H
                      have c21b0 : (t138 == t139) = true := beq_iff_eq.mpr c21
                      have c21b1 : (t138 != t139) = false := bne_eq_false_iff_eq.mpr c21
                      clear c21
                      have H' := Aside0.mk H
                      clear H
                      go_wp2_with (first | ((with_reducible refine gate_callee (f := 17) rfl ?_); refine goesL_ (some 35) rfl rfl Try.func17 (by kernel_rfl) rfl #[.string a0, .int .i64 x8_7] rfl (by (try simp only [List.map_toArray, List.map_cons, List.map_nil]); first | done | rfl | (simp only [List.length_drop, List.length_take]; rfl)) ?_; (with_reducible refine (bits_Has.calls a0 x8_7 t132 _ A10.out).mono ?_); rintro e w' ⟨rfl, ⟨nd, rfl⟩⟩; refine ⟨_, rfl, ?_⟩) | ((with_reducible refine gate_callee (f := 18) rfl ?_); refine goesL_ (some 38) rfl rfl Try.func18 (by kernel_rfl) rfl #[.string a0, .int .i64 x8_7] rfl (by (try simp only [List.map_toArray, List.map_cons, List.map_nil]); first | done | rfl | (simp only [List.length_drop, List.length_take]; rfl)) ?_; (with_reducible refine (lighterref02_Has.calls kj7 a0 x8_7 t133 _ A11.out).mono ?_); rintro e w' ⟨rfl, ⟨nd, rfl⟩⟩; refine ⟨_, rfl, ?_⟩) | (go_at_call 19; (with_reducible refine (bits_With.calls a0 x8_7 true t134 _ A13.out).mono ?_); rintro e w22 ⟨rfl, hb⟩; have n0_ := Aside0.mk (below_step (by repeat (first | (with_reducible first | exact HB.out | apply below_alloc | apply pw_below_drewN | apply below_drew1) | exact HB.out)) hb); clear HB; have HB := n0_; clear n0_; (try clear hb); (try clear hb2); (try clear hk); (try clear hi)) | (go_at_call 20; (with_reducible refine (lighterref02_With.calls kj7 a0 x8_7 true t135 _ A14.out).mono ?_); rintro e w23 ⟨rfl, hb⟩; have n0_ := Aside0.mk (below_step (by repeat (first | (with_reducible first | exact HB.out | apply below_alloc | apply pw_below_drewN | apply below_drew1) | exact HB.out)) hb); clear HB; have HB := n0_; clear n0_; (try clear hb); (try clear hb2); (try clear hk); (try clear hi)) | (go_at_call 19; (with_reducible refine (bits_With.calls a0 x8_7 false t136 _ A16.out).mono ?_); rintro e w24 ⟨rfl, hb⟩; have n0_ := Aside0.mk (below_step (by repeat (first | (with_reducible first | exact HB.out | apply below_alloc | apply pw_below_drewN | apply below_drew1) | exact HB.out)) hb); clear HB; have HB := n0_; clear n0_; (try clear hb); (try clear hb2); (try clear hk); (try clear hi)) | (go_at_call 20; (with_reducible refine (lighterref02_With.calls kj7 a0 x8_7 false t137 _ A17.out).mono ?_); rintro e w25 ⟨rfl, hb⟩; have n0_ := Aside0.mk (below_step (by repeat (first | (with_reducible first | exact HB.out | apply below_alloc | apply pw_below_drewN | apply below_drew1) | exact HB.out)) hb); clear HB; have HB := n0_; clear n0_; (try clear hb); (try clear hb2); (try clear hk); (try clear hi)) | (go_at_call 21; (with_reducible refine (bits_Run.calls a0 x8_7 x9_7 t138 _ A19.out).mono ?_); rintro e w26 ⟨rfl, hb⟩; have n0_ := Aside0.mk (below_step (by repeat (first | (with_reducible first | exact HB.out | apply below_alloc | apply pw_below_drewN | apply below_drew1) | exact HB.out)) hb); clear HB; have HB := n0_; clear n0_; (try clear hb); (try clear hb2); (try clear hk); (try clear hi)) | (go_at_call 22; (with_reducible refine (lighterref02_Run.calls kj7 a0 x8_7 x9_7 t139 _ A20.out).mono ?_); rintro e w27 ⟨rfl, hb⟩; have n0_ := Aside0.mk (below_step (by repeat (first | (with_reducible first | exact HB.out | apply below_alloc | apply pw_below_drewN | apply below_drew1) | exact HB.out)) hb); clear HB; have HB := n0_; clear n0_; (try clear hb); (try clear hb2); (try clear hk); (try clear hi)))
                      go_roundg kj7
                      case measure => have := HK1.out; have := HJ7.out; omega
                      case rel => exact ⟨(wrap64 (x7_1 + 1)), (by first | rfl | (simp; done) | (simp [*]; done)), H', ⟨by have := HK1.out; have := HJ7.out; omega⟩, ⟨by repeat (first | (with_reducible first | exact HB.out | apply below_alloc | apply pw_below_drewN | apply below_drew1) | exact HB.out)⟩⟩
                    · rw [if_neg c21] at H
                      have c21b0 : (t138 == t139) = false := beq_eq_false_iff_ne.mpr c21
                      have c21b1 : (t138 != t139) = true := bne_iff_ne.mpr c21
                      obtain rfl := Option.some.inj H
                      go_wp2_with (first | ((with_reducible refine gate_callee (f := 17) rfl ?_); refine goesL_ (some 35) rfl rfl Try.func17 (by kernel_rfl) rfl #[.string a0, .int .i64 x8_7] rfl (by (try simp only [List.map_toArray, List.map_cons, List.map_nil]); first | done | rfl | (simp only [List.length_drop, List.length_take]; rfl)) ?_; (with_reducible refine (bits_Has.calls a0 x8_7 t132 _ A10.out).mono ?_); rintro e w' ⟨rfl, ⟨nd, rfl⟩⟩; refine ⟨_, rfl, ?_⟩) | ((with_reducible refine gate_callee (f := 18) rfl ?_); refine goesL_ (some 38) rfl rfl Try.func18 (by kernel_rfl) rfl #[.string a0, .int .i64 x8_7] rfl (by (try simp only [List.map_toArray, List.map_cons, List.map_nil]); first | done | rfl | (simp only [List.length_drop, List.length_take]; rfl)) ?_; (with_reducible refine (lighterref02_Has.calls kj7 a0 x8_7 t133 _ A11.out).mono ?_); rintro e w' ⟨rfl, ⟨nd, rfl⟩⟩; refine ⟨_, rfl, ?_⟩) | (go_at_call 19; (with_reducible refine (bits_With.calls a0 x8_7 true t134 _ A13.out).mono ?_); rintro e w28 ⟨rfl, hb⟩; have n0_ := Aside0.mk (below_step (by repeat (first | (with_reducible first | exact HB.out | apply below_alloc | apply pw_below_drewN | apply below_drew1) | exact HB.out)) hb); clear HB; have HB := n0_; clear n0_; (try clear hb); (try clear hb2); (try clear hk); (try clear hi)) | (go_at_call 20; (with_reducible refine (lighterref02_With.calls kj7 a0 x8_7 true t135 _ A14.out).mono ?_); rintro e w29 ⟨rfl, hb⟩; have n0_ := Aside0.mk (below_step (by repeat (first | (with_reducible first | exact HB.out | apply below_alloc | apply pw_below_drewN | apply below_drew1) | exact HB.out)) hb); clear HB; have HB := n0_; clear n0_; (try clear hb); (try clear hb2); (try clear hk); (try clear hi)) | (go_at_call 19; (with_reducible refine (bits_With.calls a0 x8_7 false t136 _ A16.out).mono ?_); rintro e w30 ⟨rfl, hb⟩; have n0_ := Aside0.mk (below_step (by repeat (first | (with_reducible first | exact HB.out | apply below_alloc | apply pw_below_drewN | apply below_drew1) | exact HB.out)) hb); clear HB; have HB := n0_; clear n0_; (try clear hb); (try clear hb2); (try clear hk); (try clear hi)) | (go_at_call 20; (with_reducible refine (lighterref02_With.calls kj7 a0 x8_7 false t137 _ A17.out).mono ?_); rintro e w31 ⟨rfl, hb⟩; have n0_ := Aside0.mk (below_step (by repeat (first | (with_reducible first | exact HB.out | apply below_alloc | apply pw_below_drewN | apply below_drew1) | exact HB.out)) hb); clear HB; have HB := n0_; clear n0_; (try clear hb); (try clear hb2); (try clear hk); (try clear hi)) | (go_at_call 21; (with_reducible refine (bits_Run.calls a0 x8_7 x9_7 t138 _ A19.out).mono ?_); rintro e w32 ⟨rfl, hb⟩; have n0_ := Aside0.mk (below_step (by repeat (first | (with_reducible first | exact HB.out | apply below_alloc | apply pw_below_drewN | apply below_drew1) | exact HB.out)) hb); clear HB; have HB := n0_; clear n0_; (try clear hb); (try clear hb2); (try clear hk); (try clear hi)) | (go_at_call 22; (with_reducible refine (lighterref02_Run.calls kj7 a0 x8_7 x9_7 t139 _ A20.out).mono ?_); rintro e w33 ⟨rfl, hb⟩; have n0_ := Aside0.mk (below_step (by repeat (first | (with_reducible first | exact HB.out | apply below_alloc | apply pw_below_drewN | apply below_drew1) | exact HB.out)) hb); clear HB; have HB := n0_; clear n0_; (try clear hb); (try clear hb2); (try clear hk); (try clear hi)))
                      go_ret
                      exact ⟨by first | rfl | (simp [errW_none, errW_some] <;> rfl) | (simp [*, errW_none, errW_some] <;> rfl), by repeat (first | (with_reducible first | exact HB.out | apply below_alloc | apply pw_below_drewN | apply below_drew1) | exact HB.out)⟩
                  · rw [if_neg c18] at H
                    have c18b0 : (t136.toList == t137.toList) = false := beq_eq_false_iff_ne.mpr c18
                    have c18b1 : (t136.toList != t137.toList) = true := bne_iff_ne.mpr c18
                    obtain rfl := Option.some.inj H
                    go_wp2_with (first | ((with_reducible refine gate_callee (f := 17) rfl ?_); refine goesL_ (some 35) rfl rfl Try.func17 (by kernel_rfl) rfl #[.string a0, .int .i64 x8_7] rfl (by (try simp only [List.map_toArray, List.map_cons, List.map_nil]); first | done | rfl | (simp only [List.length_drop, List.length_take]; rfl)) ?_; (with_reducible refine (bits_Has.calls a0 x8_7 t132 _ A10.out).mono ?_); rintro e w' ⟨rfl, ⟨nd, rfl⟩⟩; refine ⟨_, rfl, ?_⟩) | ((with_reducible refine gate_callee (f := 18) rfl ?_); refine goesL_ (some 38) rfl rfl Try.func18 (by kernel_rfl) rfl #[.string a0, .int .i64 x8_7] rfl (by (try simp only [List.map_toArray, List.map_cons, List.map_nil]); first | done | rfl | (simp only [List.length_drop, List.length_take]; rfl)) ?_; (with_reducible refine (lighterref02_Has.calls kj7 a0 x8_7 t133 _ A11.out).mono ?_); rintro e w' ⟨rfl, ⟨nd, rfl⟩⟩; refine ⟨_, rfl, ?_⟩) | (go_at_call 19; (with_reducible refine (bits_With.calls a0 x8_7 true t134 _ A13.out).mono ?_); rintro e w34 ⟨rfl, hb⟩; have n0_ := Aside0.mk (below_step (by repeat (first | (with_reducible first | exact HB.out | apply below_alloc | apply pw_below_drewN | apply below_drew1) | exact HB.out)) hb); clear HB; have HB := n0_; clear n0_; (try clear hb); (try clear hb2); (try clear hk); (try clear hi)) | (go_at_call 20; (with_reducible refine (lighterref02_With.calls kj7 a0 x8_7 true t135 _ A14.out).mono ?_); rintro e w35 ⟨rfl, hb⟩; have n0_ := Aside0.mk (below_step (by repeat (first | (with_reducible first | exact HB.out | apply below_alloc | apply pw_below_drewN | apply below_drew1) | exact HB.out)) hb); clear HB; have HB := n0_; clear n0_; (try clear hb); (try clear hb2); (try clear hk); (try clear hi)) | (go_at_call 19; (with_reducible refine (bits_With.calls a0 x8_7 false t136 _ A16.out).mono ?_); rintro e w36 ⟨rfl, hb⟩; have n0_ := Aside0.mk (below_step (by repeat (first | (with_reducible first | exact HB.out | apply below_alloc | apply pw_below_drewN | apply below_drew1) | exact HB.out)) hb); clear HB; have HB := n0_; clear n0_; (try clear hb); (try clear hb2); (try clear hk); (try clear hi)) | (go_at_call 20; (with_reducible refine (lighterref02_With.calls kj7 a0 x8_7 false t137 _ A17.out).mono ?_); rintro e w37 ⟨rfl, hb⟩; have n0_ := Aside0.mk (below_step (by repeat (first | (with_reducible first | exact HB.out | apply below_alloc | apply pw_below_drewN | apply below_drew1) | exact HB.out)) hb); clear HB; have HB := n0_; clear n0_; (try clear hb); (try clear hb2); (try clear hk); (try clear hi)))
                    go_ret
                    exact ⟨by first | rfl | (simp [errW_none, errW_some] <;> rfl) | (simp [*, errW_none, errW_some] <;> rfl), by repeat (first | (with_reducible first | exact HB.out | apply below_alloc | apply pw_below_drewN | apply below_drew1) | exact HB.out)⟩
                · rw [if_neg c15] at H
                  have c15b0 : (t134.toList == t135.toList) = false := beq_eq_false_iff_ne.mpr c15
                  have c15b1 : (t134.toList != t135.toList) = true := bne_iff_ne.mpr c15
                  obtain rfl := Option.some.inj H
                  go_wp2_with (first | ((with_reducible refine gate_callee (f := 17) rfl ?_); refine goesL_ (some 35) rfl rfl Try.func17 (by kernel_rfl) rfl #[.string a0, .int .i64 x8_7] rfl (by (try simp only [List.map_toArray, List.map_cons, List.map_nil]); first | done | rfl | (simp only [List.length_drop, List.length_take]; rfl)) ?_; (with_reducible refine (bits_Has.calls a0 x8_7 t132 _ A10.out).mono ?_); rintro e w' ⟨rfl, ⟨nd, rfl⟩⟩; refine ⟨_, rfl, ?_⟩) | ((with_reducible refine gate_callee (f := 18) rfl ?_); refine goesL_ (some 38) rfl rfl Try.func18 (by kernel_rfl) rfl #[.string a0, .int .i64 x8_7] rfl (by (try simp only [List.map_toArray, List.map_cons, List.map_nil]); first | done | rfl | (simp only [List.length_drop, List.length_take]; rfl)) ?_; (with_reducible refine (lighterref02_Has.calls kj7 a0 x8_7 t133 _ A11.out).mono ?_); rintro e w' ⟨rfl, ⟨nd, rfl⟩⟩; refine ⟨_, rfl, ?_⟩) | (go_at_call 19; (with_reducible refine (bits_With.calls a0 x8_7 true t134 _ A13.out).mono ?_); rintro e w38 ⟨rfl, hb⟩; have n0_ := Aside0.mk (below_step (by repeat (first | (with_reducible first | exact HB.out | apply below_alloc | apply pw_below_drewN | apply below_drew1) | exact HB.out)) hb); clear HB; have HB := n0_; clear n0_; (try clear hb); (try clear hb2); (try clear hk); (try clear hi)) | (go_at_call 20; (with_reducible refine (lighterref02_With.calls kj7 a0 x8_7 true t135 _ A14.out).mono ?_); rintro e w39 ⟨rfl, hb⟩; have n0_ := Aside0.mk (below_step (by repeat (first | (with_reducible first | exact HB.out | apply below_alloc | apply pw_below_drewN | apply below_drew1) | exact HB.out)) hb); clear HB; have HB := n0_; clear n0_; (try clear hb); (try clear hb2); (try clear hk); (try clear hi)))
                  go_ret
                  exact ⟨by first | rfl | (simp [errW_none, errW_some] <;> rfl) | (simp [*, errW_none, errW_some] <;> rfl), by repeat (first | (with_reducible first | exact HB.out | apply below_alloc | apply pw_below_drewN | apply below_drew1) | exact HB.out)⟩
        · rw [if_neg c7] at H
          have c7b0 : decide (x7_1 < 4) = false := decide_eq_false c7
          clear c7
          replace H := Option.bind_eq_some_iff.mp H
          obtain ⟨t129, A400, H⟩ := H
          replace H : ((lighterref02_Count.f k1 a0).bind fun t130 => (if t129 = t130 then ((lighterlaw02_shown.f k1).bind fun t131 => (some t131)) else (some false))) = some r := H
          have A40 := Aside0.mk A400
          clear A400
          replace H := Option.bind_eq_some_iff.mp H
          obtain ⟨t130, A410, H⟩ := H
          replace H : (if t129 = t130 then ((lighterlaw02_shown.f k1).bind fun t131 => (some t131)) else (some false)) = some r := H
          have A41 := Aside0.mk A410
          clear A410
          by_cases c42 : t129 = t130
          · rw [if_pos c42] at H
            have c42b0 : (t129 == t130) = true := beq_iff_eq.mpr c42
            have c42b1 : (t129 != t130) = false := bne_eq_false_iff_eq.mpr c42
            clear c42
            replace H := Option.bind_eq_some_iff.mp H
            obtain ⟨t131, A430, H⟩ := H
            replace H : (some t131) = some r := H
            have A43 := Aside0.mk A430
            clear A430
            obtain rfl := Option.some.inj H
            go_wp2_with (first | ((with_reducible refine gate_callee (f := 23) rfl ?_); refine goesL_ (some 70) rfl rfl Try.func23 (by kernel_rfl) rfl #[.string a0] rfl (by (try simp only [List.map_toArray, List.map_cons, List.map_nil]); first | done | rfl | (simp only [List.length_drop, List.length_take]; rfl)) ?_; (with_reducible refine (bits_Count.calls k1 a0 t129 _ A40.out).mono ?_); rintro e w' ⟨rfl, ⟨nd, rfl⟩⟩; refine ⟨_, rfl, ?_⟩) | ((with_reducible refine gate_callee (f := 24) rfl ?_); refine goesL_ (some 72) rfl rfl Try.func24 (by kernel_rfl) rfl #[.string a0] rfl (by (try simp only [List.map_toArray, List.map_cons, List.map_nil]); first | done | rfl | (simp only [List.length_drop, List.length_take]; rfl)) ?_; (with_reducible refine (lighterref02_Count.calls k1 a0 t130 _ A41.out).mono ?_); rintro e w' ⟨rfl, ⟨nd, rfl⟩⟩; refine ⟨_, rfl, ?_⟩) | (go_at_call 12; (with_reducible refine (lighterlaw02_shown.calls k1  t131 _ A43.out).mono ?_); rintro e w44 ⟨rfl, hb⟩; have n0_ := Aside0.mk (below_step (by repeat (first | (with_reducible first | exact HB.out | apply below_alloc | apply pw_below_drewN | apply below_drew1) | exact HB.out)) hb); clear HB; have HB := n0_; clear n0_; (try clear hb); (try clear hb2); (try clear hk); (try clear hi)))
            go_ret
            exact ⟨by first | rfl | (simp [errW_none, errW_some] <;> rfl) | (simp [*, errW_none, errW_some] <;> rfl), by repeat (first | (with_reducible first | exact HB.out | apply below_alloc | apply pw_below_drewN | apply below_drew1) | exact HB.out)⟩
          · rw [if_neg c42] at H
            have c42b0 : (t129 == t130) = false := beq_eq_false_iff_ne.mpr c42
            have c42b1 : (t129 != t130) = true := bne_iff_ne.mpr c42
            obtain rfl := Option.some.inj H
            go_wp2_with (first | ((with_reducible refine gate_callee (f := 23) rfl ?_); refine goesL_ (some 70) rfl rfl Try.func23 (by kernel_rfl) rfl #[.string a0] rfl (by (try simp only [List.map_toArray, List.map_cons, List.map_nil]); first | done | rfl | (simp only [List.length_drop, List.length_take]; rfl)) ?_; (with_reducible refine (bits_Count.calls k1 a0 t129 _ A40.out).mono ?_); rintro e w' ⟨rfl, ⟨nd, rfl⟩⟩; refine ⟨_, rfl, ?_⟩) | ((with_reducible refine gate_callee (f := 24) rfl ?_); refine goesL_ (some 72) rfl rfl Try.func24 (by kernel_rfl) rfl #[.string a0] rfl (by (try simp only [List.map_toArray, List.map_cons, List.map_nil]); first | done | rfl | (simp only [List.length_drop, List.length_take]; rfl)) ?_; (with_reducible refine (lighterref02_Count.calls k1 a0 t130 _ A41.out).mono ?_); rintro e w' ⟨rfl, ⟨nd, rfl⟩⟩; refine ⟨_, rfl, ?_⟩))
            go_ret
            exact ⟨by first | rfl | (simp [errW_none, errW_some] <;> rfl) | (simp [*, errW_none, errW_some] <;> rfl), by repeat (first | (with_reducible first | exact HB.out | apply below_alloc | apply pw_below_drewN | apply below_drew1) | exact HB.out)⟩

/-- THE ONE PURE STATEMENT of lighterlaw02_BitsMap: yours. -/
def lighterlaw02_BitsMap.Pure : Prop := ∀ (a0 : ByteArray) (a1 : Int) (a2 : Int), a0.size ≤ 140737488351232 → (Lit.int .i64 a1).wf = true → (Lit.int .i64 a2).wf = true → ∃ k, lighterlaw02_BitsMap.f k a0 a1 a2 = some true
theorem lighterlaw02_BitsMap.walk (P : lighterlaw02_BitsMap.Pure) (a0 : ByteArray) (a1 : Int) (a2 : Int) (w : World) (w0 : a0.size ≤ 140737488351232) (w1 : (Lit.int .i64 a1).wf = true) (w2 : (Lit.int .i64 a2).wf = true) :
    Calls Try.prog 4 #[.string a0, .int .i64 a1, .int .i64 a2] w fun e w' => e = .returned (.bool true) ∧ Below w.heap.size w w' := by
  obtain ⟨k, h⟩ := P a0 a1 a2 w0 w1 w2
  refine (lighterlaw02_BitsMap.calls k a0 a1 a2 true w h).mono ?_
  rintro e w' ⟨rfl, hd⟩
  exact ⟨rfl, hd⟩

/-! ### lighterlaw02_BitsBack: function 5 -/
mutual
def lighterlaw02_BitsBack.j0 : Nat → ByteArray → Int → Bool → Option (Bool)
  | 0, _, _, _ => none
  | k + 1, x1, x2, x27 => if x27 = true then (some false) else ((bits_With.f x1 (Int.tmod (wrap64 (x2)) 500) true).bind fun t145 => ((bits_With.f x1 (Int.tmod (wrap64 (x2)) 500) false).bind fun t146 => (if (Int.tmod (wrap64 (x2)) 500) ≥ (wrap64 (8 * (x1.size : Int))) then (if t145.toList = x1.toList then (if t146.toList = x1.toList then ((lighterlaw02_shown.f k).bind fun t147 => (some t147)) else (some false)) else (some false)) else (lighterlaw02_BitsBack.l0 k x1 (Int.tmod (wrap64 (x2)) 500) t145 t146 0))))
def lighterlaw02_BitsBack.l0 : Nat → ByteArray → Int → ByteArray → ByteArray → Int → Option (Bool)
  | 0, _, _, _, _, _ => none
  | k + 1, x1, x7, x8, x9, x10 => if x10 < (wrap64 (8 * (x1.size : Int))) then ((bits_Has.f x8 x10).bind fun t148 => ((bits_Has.f x1 x10).bind fun t149 => (if t149 = true then (if t148 = true then ((bits_Has.f x9 x10).bind fun t150 => ((bits_Has.f x1 x10).bind fun t151 => (if t151 = true then (if (t150 != (x10 != x7)) = true then (some false) else (lighterlaw02_BitsBack.l0 k x1 x7 x8 x9 (wrap64 (x10 + 1)))) else (if t150 = true then (some false) else (lighterlaw02_BitsBack.l0 k x1 x7 x8 x9 (wrap64 (x10 + 1))))))) else (some false)) else (if (t148 != (x10 == x7)) = true then (some false) else ((bits_Has.f x9 x10).bind fun t152 => ((bits_Has.f x1 x10).bind fun t153 => (if t153 = true then (if (t152 != (x10 != x7)) = true then (some false) else (lighterlaw02_BitsBack.l0 k x1 x7 x8 x9 (wrap64 (x10 + 1)))) else (if t152 = true then (some false) else (lighterlaw02_BitsBack.l0 k x1 x7 x8 x9 (wrap64 (x10 + 1))))))))))) else ((bits_Count.f k x8).bind fun t154 => ((bits_Count.f k x9).bind fun t155 => (if t154 = (wrap64 (t155 + 1)) then ((bits_Has.f x1 x7).bind fun t156 => ((bits_With.f x8 x7 t156).bind fun t157 => (if t157.toList = x1.toList then ((lighterlaw02_shown.f k).bind fun t158 => (some t158)) else (some false)))) else (some false))))
end
def lighterlaw02_BitsBack.f (k : Nat) (a0 : Int) (a1 : ByteArray) (a2 : Int) : Option (Bool) := if (a1.size : Int) > 60 then ((lighterlaw02_shown.f k).bind fun t140 => (some t140)) else ((bits_Put.f a0 8).bind fun t141 => ((bits_Get.f k t141).bind fun t142 => (if t142 = a0 then ((bits_Put.f a0 3).bind fun t143 => ((bits_Get.f k t143).bind fun t144 => (lighterlaw02_BitsBack.j0 k a1 a2 (t144 != (Go.bits .and .u64 a0 16777215))))) else (lighterlaw02_BitsBack.j0 k a1 a2 true))))
theorem lighterlaw02_BitsBack.mono_l : ∀ k, (∀ y0 y1 y2, LeO (lighterlaw02_BitsBack.j0 k y0 y1 y2) (lighterlaw02_BitsBack.j0 (k + 1) y0 y1 y2)) ∧ (∀ y0 y1 y2 y3 y4, LeO (lighterlaw02_BitsBack.l0 k y0 y1 y2 y3 y4) (lighterlaw02_BitsBack.l0 (k + 1) y0 y1 y2 y3 y4))
  | 0 => ⟨fun _ _ _ r h => by simp [lighterlaw02_BitsBack.j0] at h, fun _ _ _ _ _ r h => by simp [lighterlaw02_BitsBack.l0] at h⟩
  | k + 1 => by
    obtain ⟨ih0, ih1⟩ := lighterlaw02_BitsBack.mono_l k
    refine ⟨?_, ?_⟩
    · intro y0 y1 y2
      unfold lighterlaw02_BitsBack.j0
      repeat' first
      | (with_reducible exact ih0 _ _ _)
      | (with_reducible exact ih1 _ _ _ _ _)
      | (with_reducible exact bits_Count.mono _ _)
      | (with_reducible exact bits_Get.mono _ _)
      | (with_reducible exact lighterlaw02_shown.mono _)
      | (with_reducible exact LeO.refl _)
      | (with_reducible exact LeO.none _)
      | (with_reducible refine LeO.ite ?_ ?_)
      | (with_reducible refine LeO.bind ?_ (fun _ => ?_))
      | exact ih0 _ _ _
      | exact ih1 _ _ _ _ _
      | exact bits_Count.mono _ _
      | exact bits_Get.mono _ _
      | exact lighterlaw02_shown.mono _
      | exact LeO.none _
      | refine LeO.ite ?_ ?_
      | refine LeO.bind ?_ (fun _ => ?_)
    · intro y0 y1 y2 y3 y4
      unfold lighterlaw02_BitsBack.l0
      repeat' first
      | (with_reducible exact ih0 _ _ _)
      | (with_reducible exact ih1 _ _ _ _ _)
      | (with_reducible exact bits_Count.mono _ _)
      | (with_reducible exact bits_Get.mono _ _)
      | (with_reducible exact lighterlaw02_shown.mono _)
      | (with_reducible exact LeO.refl _)
      | (with_reducible exact LeO.none _)
      | (with_reducible refine LeO.ite ?_ ?_)
      | (with_reducible refine LeO.bind ?_ (fun _ => ?_))
      | exact ih0 _ _ _
      | exact ih1 _ _ _ _ _
      | exact bits_Count.mono _ _
      | exact bits_Get.mono _ _
      | exact lighterlaw02_shown.mono _
      | exact LeO.none _
      | refine LeO.ite ?_ ?_
      | refine LeO.bind ?_ (fun _ => ?_)
theorem lighterlaw02_BitsBack.mono : ∀ a0 a1 a2 k, LeO (lighterlaw02_BitsBack.f k a0 a1 a2) (lighterlaw02_BitsBack.f (k + 1) a0 a1 a2) := by
  intro a0 a1 a2 k
  obtain ⟨ih0, ih1⟩ := lighterlaw02_BitsBack.mono_l k
  unfold lighterlaw02_BitsBack.f
  repeat' first
      | (with_reducible exact ih0 _ _ _)
      | (with_reducible exact ih1 _ _ _ _ _)
      | (with_reducible exact bits_Count.mono _ _)
      | (with_reducible exact bits_Get.mono _ _)
      | (with_reducible exact lighterlaw02_shown.mono _)
      | (with_reducible exact LeO.refl _)
      | (with_reducible exact LeO.none _)
      | (with_reducible refine LeO.ite ?_ ?_)
      | (with_reducible refine LeO.bind ?_ (fun _ => ?_))
      | exact ih0 _ _ _
      | exact ih1 _ _ _ _ _
      | exact bits_Count.mono _ _
      | exact bits_Get.mono _ _
      | exact lighterlaw02_shown.mono _
      | exact LeO.none _
      | refine LeO.ite ?_ ?_
      | refine LeO.bind ?_ (fun _ => ?_)
set_option maxHeartbeats 8000000 in
set_option maxRecDepth 100000 in
theorem lighterlaw02_BitsBack.calls (k : Nat) (a0 : Int) (a1 : ByteArray) (a2 : Int) (r : Bool) (w : World) (h : lighterlaw02_BitsBack.f k a0 a1 a2 = some r) :
    Calls Try.prog 5 #[.int .u64 a0, .string a1, .int .u16 a2] w fun e w' => e = .returned (.bool r) ∧ Below w.heap.size w w' := by
  have HB := Aside0.mk (Below.refl w.heap.size w)
  have H : (if (a1.size : Int) > 60 then ((lighterlaw02_shown.f k).bind fun t140 => (some t140)) else ((bits_Put.f a0 8).bind fun t141 => ((bits_Get.f k t141).bind fun t142 => (if t142 = a0 then ((bits_Put.f a0 3).bind fun t143 => ((bits_Get.f k t143).bind fun t144 => (lighterlaw02_BitsBack.j0 k a1 a2 (t144 != (Go.bits .and .u64 a0 16777215))))) else (lighterlaw02_BitsBack.j0 k a1 a2 true))))) = some r := h
  clear h
  by_cases c4 : (a1.size : Int) > 60
  · rw [if_pos c4] at H
    have c4b0 : decide (60 < (a1.size : Int)) = true := decide_eq_true c4
    have c4b1 : decide (60 < a1.size) = true := decide_eq_true (by omega)
    clear c4
    replace H := Option.bind_eq_some_iff.mp H
    obtain ⟨t140, A50, H⟩ := H
    replace H : (some t140) = some r := H
    have A5 := Aside0.mk A50
    clear A50
    obtain rfl := Option.some.inj H
    go_enter Try.func5, Try.ntmps5
    go_wp2_with (first | ((with_reducible refine gate_callee (f := 12) rfl ?_); refine goesL_ (some 14) rfl rfl Try.func12 (by kernel_rfl) rfl #[] rfl (by (try simp only [List.map_toArray, List.map_cons, List.map_nil]); first | done | rfl | (simp only [List.length_drop, List.length_take]; rfl)) ?_; (with_reducible refine (lighterlaw02_shown.calls k  t140 _ A5.out).mono ?_); rintro e w6 ⟨rfl, hb⟩; refine ⟨_, rfl, ?_⟩; have n0_ := Aside0.mk (below_step (by repeat (first | (with_reducible first | exact HB.out | apply below_alloc | apply pw_below_drewN | apply below_drew1) | exact HB.out)) hb); clear HB; have HB := n0_; clear n0_; (try clear hb); (try clear hb2); (try clear hk); (try clear hi)))
    go_ret
    exact ⟨by first | rfl | (simp [errW_none, errW_some] <;> rfl) | (simp [*, errW_none, errW_some] <;> rfl), by repeat (first | (with_reducible first | exact HB.out | apply below_alloc | apply pw_below_drewN | apply below_drew1) | exact HB.out)⟩
  · rw [if_neg c4] at H
    have c4b0 : decide (60 < (a1.size : Int)) = false := decide_eq_false c4
    have c4b1 : decide (60 < a1.size) = false := decide_eq_false (by omega)
    clear c4
    have HC7 := Aside0.mk H
    clear H
    go_enter Try.func5, Try.ntmps5
    go_upto_region 3 with (fail)
    go_cut [27] (fun v27 wc => ∃ (kq : Nat) (x27_6 : Bool), v27 = .bool x27_6 ∧ Aside0 (lighterlaw02_BitsBack.j0 kq a1 a2 x27_6 = some r) ∧ Aside0 (kq ≤ k) ∧ Aside0 (Below w.heap.size w wc))
    case first =>
      have H := HC7.out
      clear HC7
      replace H := Option.bind_eq_some_iff.mp H
      obtain ⟨t141, A80, H⟩ := H
      replace H : ((bits_Get.f k t141).bind fun t142 => (if t142 = a0 then ((bits_Put.f a0 3).bind fun t143 => ((bits_Get.f k t143).bind fun t144 => (lighterlaw02_BitsBack.j0 k a1 a2 (t144 != (Go.bits .and .u64 a0 16777215))))) else (lighterlaw02_BitsBack.j0 k a1 a2 true))) = some r := H
      have A8 := Aside0.mk A80
      clear A80
      replace H := Option.bind_eq_some_iff.mp H
      obtain ⟨t142, A90, H⟩ := H
      replace H : (if t142 = a0 then ((bits_Put.f a0 3).bind fun t143 => ((bits_Get.f k t143).bind fun t144 => (lighterlaw02_BitsBack.j0 k a1 a2 (t144 != (Go.bits .and .u64 a0 16777215))))) else (lighterlaw02_BitsBack.j0 k a1 a2 true)) = some r := H
      have A9 := Aside0.mk A90
      clear A90
      by_cases c10 : t142 = a0
      · rw [if_pos c10] at H
        have c10b0 : (t142 == a0) = true := beq_iff_eq.mpr c10
        have c10b1 : (t142 != a0) = false := bne_eq_false_iff_eq.mpr c10
        clear c10
        (first | rw [c10b0] | (simp only [i64_w, i32_w]; rw [c10b0]) | skip)
        replace H := Option.bind_eq_some_iff.mp H
        obtain ⟨t143, A110, H⟩ := H
        replace H : ((bits_Get.f k t143).bind fun t144 => (lighterlaw02_BitsBack.j0 k a1 a2 (t144 != (Go.bits .and .u64 a0 16777215)))) = some r := H
        have A11 := Aside0.mk A110
        clear A110
        replace H := Option.bind_eq_some_iff.mp H
        obtain ⟨t144, A120, H⟩ := H
        replace H : (lighterlaw02_BitsBack.j0 k a1 a2 (t144 != (Go.bits .and .u64 a0 16777215))) = some r := H
        have A12 := Aside0.mk A120
        clear A120
        have H' := Aside0.mk H
        clear H
        go_wp2_with (first | ((with_reducible refine gate_callee (f := 13) rfl ?_); refine goesL_ (some 16) rfl rfl Try.func13 (by kernel_rfl) rfl #[.int .u64 a0, .int .i64 8] rfl (by (try simp only [List.map_toArray, List.map_cons, List.map_nil]); first | done | rfl | (simp only [List.length_drop, List.length_take]; rfl)) ?_; (with_reducible refine (bits_Put.calls a0 8 t141 _ A8.out).mono ?_); rintro e w13 ⟨rfl, hb⟩; refine ⟨_, rfl, ?_⟩; have n0_ := Aside0.mk (below_step (by repeat (first | (with_reducible first | exact HB.out | apply below_alloc | apply pw_below_drewN | apply below_drew1) | exact HB.out)) hb); clear HB; have HB := n0_; clear n0_; (try clear hb); (try clear hb2); (try clear hk); (try clear hi)) | ((with_reducible refine gate_callee (f := 15) rfl ?_); refine goesL_ (some 17) rfl rfl Try.func15 (by kernel_rfl) rfl #[.string t141] rfl (by (try simp only [List.map_toArray, List.map_cons, List.map_nil]); first | done | rfl | (simp only [List.length_drop, List.length_take]; rfl)) ?_; (with_reducible refine (bits_Get.calls k t141 t142 _ A9.out).mono ?_); rintro e w14 ⟨rfl, hb⟩; refine ⟨_, rfl, ?_⟩; have n0_ := Aside0.mk (below_step (by repeat (first | (with_reducible first | exact HB.out | apply below_alloc | apply pw_below_drewN | apply below_drew1) | exact HB.out)) hb); clear HB; have HB := n0_; clear n0_; (try clear hb); (try clear hb2); (try clear hk); (try clear hi)) | (go_at_call 13; (with_reducible refine (bits_Put.calls a0 3 t143 _ A11.out).mono ?_); rintro e w15 ⟨rfl, hb⟩; have n0_ := Aside0.mk (below_step (by repeat (first | (with_reducible first | exact HB.out | apply below_alloc | apply pw_below_drewN | apply below_drew1) | exact HB.out)) hb); clear HB; have HB := n0_; clear n0_; (try clear hb); (try clear hb2); (try clear hk); (try clear hi)) | (go_at_call 15; (with_reducible refine (bits_Get.calls k t143 t144 _ A12.out).mono ?_); rintro e w16 ⟨rfl, hb⟩; have n0_ := Aside0.mk (below_step (by repeat (first | (with_reducible first | exact HB.out | apply below_alloc | apply pw_below_drewN | apply below_drew1) | exact HB.out)) hb); clear HB; have HB := n0_; clear n0_; (try clear hb); (try clear hb2); (try clear hk); (try clear hi)))
        go_meet
        case rel => exact ⟨_, ((t144 != (Go.bits .and .u64 a0 16777215))), (by first | rfl | (simp; done) | (simp [*]; done)), H', ⟨by first | omega | exact Nat.le_refl _⟩, ⟨by repeat (first | (with_reducible first | exact HB.out | apply below_alloc | apply pw_below_drewN | apply below_drew1) | exact HB.out)⟩⟩
      · rw [if_neg c10] at H
        have c10b0 : (t142 == a0) = false := beq_eq_false_iff_ne.mpr c10
        have c10b1 : (t142 != a0) = true := bne_iff_ne.mpr c10
        (first | rw [c10b0] | (simp only [i64_w, i32_w]; rw [c10b0]) | skip)
        have H' := Aside0.mk H
        clear H
        go_wp2_with (first | ((with_reducible refine gate_callee (f := 13) rfl ?_); refine goesL_ (some 16) rfl rfl Try.func13 (by kernel_rfl) rfl #[.int .u64 a0, .int .i64 8] rfl (by (try simp only [List.map_toArray, List.map_cons, List.map_nil]); first | done | rfl | (simp only [List.length_drop, List.length_take]; rfl)) ?_; (with_reducible refine (bits_Put.calls a0 8 t141 _ A8.out).mono ?_); rintro e w17 ⟨rfl, hb⟩; refine ⟨_, rfl, ?_⟩; have n0_ := Aside0.mk (below_step (by repeat (first | (with_reducible first | exact HB.out | apply below_alloc | apply pw_below_drewN | apply below_drew1) | exact HB.out)) hb); clear HB; have HB := n0_; clear n0_; (try clear hb); (try clear hb2); (try clear hk); (try clear hi)) | ((with_reducible refine gate_callee (f := 15) rfl ?_); refine goesL_ (some 17) rfl rfl Try.func15 (by kernel_rfl) rfl #[.string t141] rfl (by (try simp only [List.map_toArray, List.map_cons, List.map_nil]); first | done | rfl | (simp only [List.length_drop, List.length_take]; rfl)) ?_; (with_reducible refine (bits_Get.calls k t141 t142 _ A9.out).mono ?_); rintro e w18 ⟨rfl, hb⟩; refine ⟨_, rfl, ?_⟩; have n0_ := Aside0.mk (below_step (by repeat (first | (with_reducible first | exact HB.out | apply below_alloc | apply pw_below_drewN | apply below_drew1) | exact HB.out)) hb); clear HB; have HB := n0_; clear n0_; (try clear hb); (try clear hb2); (try clear hk); (try clear hi)))
        go_meet
        case rel => exact ⟨_, (true), (by first | rfl | (simp; done) | (simp [*]; done)), H', ⟨by first | omega | exact Nat.le_refl _⟩, ⟨by repeat (first | (with_reducible first | exact HB.out | apply below_alloc | apply pw_below_drewN | apply below_drew1) | exact HB.out)⟩⟩
    case rest =>
      clear HC7
      try clear c1
      try clear p2
      try clear c4
      try clear c4b0
      try clear c4b1
      try clear c5
      try clear c10
      try clear c10b0
      try clear c10b1
      try clear c12
      try clear c13
      try clear c15
      obtain ⟨kq, x27_6, rfl, HA, HJ6, HB⟩ := hcut
      cases kq with
      | zero => exact absurd HA.out (by simp [lighterlaw02_BitsBack.j0])
      | succ kj6 =>
        have H := HA.out
        clear HA
        simp only [lighterlaw02_BitsBack.j0] at H
        by_cases c19 : x27_6 = true
        · subst c19
          have H1 : (some false) = some r := by rw [if_pos rfl] at H; exact H
          clear H
          have H := H1
          clear H1
          obtain rfl := Option.some.inj H
          go_wp2
          go_ret
          exact ⟨by first | rfl | (simp [errW_none, errW_some] <;> rfl) | (simp [*, errW_none, errW_some] <;> rfl), by repeat (first | (with_reducible first | exact HB.out | apply below_alloc | apply pw_below_drewN | apply below_drew1) | exact HB.out)⟩
        · replace c19 := Bool.eq_false_iff.mpr c19
          subst c19
          have H1 : ((bits_With.f a1 (Int.tmod (wrap64 (a2)) 500) true).bind fun t145 => ((bits_With.f a1 (Int.tmod (wrap64 (a2)) 500) false).bind fun t146 => (if (Int.tmod (wrap64 (a2)) 500) ≥ (wrap64 (8 * (a1.size : Int))) then (if t145.toList = a1.toList then (if t146.toList = a1.toList then ((lighterlaw02_shown.f kj6).bind fun t147 => (some t147)) else (some false)) else (some false)) else (lighterlaw02_BitsBack.l0 kj6 a1 (Int.tmod (wrap64 (a2)) 500) t145 t146 0)))) = some r := by rw [if_neg (show ¬ (false = true) by decide)] at H; exact H
          clear H
          have H := H1
          clear H1
          replace H := Option.bind_eq_some_iff.mp H
          obtain ⟨t145, A200, H⟩ := H
          replace H : ((bits_With.f a1 (Int.tmod (wrap64 (a2)) 500) false).bind fun t146 => (if (Int.tmod (wrap64 (a2)) 500) ≥ (wrap64 (8 * (a1.size : Int))) then (if t145.toList = a1.toList then (if t146.toList = a1.toList then ((lighterlaw02_shown.f kj6).bind fun t147 => (some t147)) else (some false)) else (some false)) else (lighterlaw02_BitsBack.l0 kj6 a1 (Int.tmod (wrap64 (a2)) 500) t145 t146 0))) = some r := H
          have A20 := Aside0.mk A200
          clear A200
          replace H := Option.bind_eq_some_iff.mp H
          obtain ⟨t146, A210, H⟩ := H
          replace H : (if (Int.tmod (wrap64 (a2)) 500) ≥ (wrap64 (8 * (a1.size : Int))) then (if t145.toList = a1.toList then (if t146.toList = a1.toList then ((lighterlaw02_shown.f kj6).bind fun t147 => (some t147)) else (some false)) else (some false)) else (lighterlaw02_BitsBack.l0 kj6 a1 (Int.tmod (wrap64 (a2)) 500) t145 t146 0)) = some r := H
          have A21 := Aside0.mk A210
          clear A210
          by_cases c22 : (Int.tmod (wrap64 (a2)) 500) ≥ (wrap64 (8 * (a1.size : Int)))
          · rw [if_pos c22] at H
            have c22b0 : decide ((wrap64 (8 * (a1.size : Int))) ≤ (Int.tmod (wrap64 (a2)) 500)) = true := decide_eq_true c22
            clear c22
            by_cases c23 : t145.toList = a1.toList
            · rw [if_pos c23] at H
              have c23b0 : (t145.toList == a1.toList) = true := beq_iff_eq.mpr c23
              have c23b1 : (t145.toList != a1.toList) = false := bne_eq_false_iff_eq.mpr c23
              clear c23
              by_cases c24 : t146.toList = a1.toList
              · rw [if_pos c24] at H
                have c24b0 : (t146.toList == a1.toList) = true := beq_iff_eq.mpr c24
                have c24b1 : (t146.toList != a1.toList) = false := bne_eq_false_iff_eq.mpr c24
                clear c24
                replace H := Option.bind_eq_some_iff.mp H
                obtain ⟨t147, A250, H⟩ := H
                replace H : (some t147) = some r := H
                have A25 := Aside0.mk A250
                clear A250
                obtain rfl := Option.some.inj H
                go_wp2_with (first | ((with_reducible refine gate_callee (f := 19) rfl ?_); refine goesL_ (some 33) rfl rfl Try.func19 (by kernel_rfl) rfl #[.string a1, .int .i64 (Int.tmod (wrap64 (a2)) 500), .bool true] rfl (by (try simp only [List.map_toArray, List.map_cons, List.map_nil]); first | done | rfl | (simp only [List.length_drop, List.length_take]; rfl)) ?_; (with_reducible refine (bits_With.calls a1 (Int.tmod (wrap64 (a2)) 500) true t145 _ A20.out).mono ?_); rintro e w26 ⟨rfl, hb⟩; refine ⟨_, rfl, ?_⟩; have n0_ := Aside0.mk (below_step (by repeat (first | (with_reducible first | exact HB.out | apply below_alloc | apply pw_below_drewN | apply below_drew1) | exact HB.out)) hb); clear HB; have HB := n0_; clear n0_; (try clear hb); (try clear hb2); (try clear hk); (try clear hi)) | ((with_reducible refine gate_callee (f := 19) rfl ?_); refine goesL_ (some 36) rfl rfl Try.func19 (by kernel_rfl) rfl #[.string a1, .int .i64 (Int.tmod (wrap64 (a2)) 500), .bool false] rfl (by (try simp only [List.map_toArray, List.map_cons, List.map_nil]); first | done | rfl | (simp only [List.length_drop, List.length_take]; rfl)) ?_; (with_reducible refine (bits_With.calls a1 (Int.tmod (wrap64 (a2)) 500) false t146 _ A21.out).mono ?_); rintro e w27 ⟨rfl, hb⟩; refine ⟨_, rfl, ?_⟩; have n0_ := Aside0.mk (below_step (by repeat (first | (with_reducible first | exact HB.out | apply below_alloc | apply pw_below_drewN | apply below_drew1) | exact HB.out)) hb); clear HB; have HB := n0_; clear n0_; (try clear hb); (try clear hb2); (try clear hk); (try clear hi)) | (go_at_call 12; (with_reducible refine (lighterlaw02_shown.calls kj6  t147 _ A25.out).mono ?_); rintro e w28 ⟨rfl, hb⟩; have n0_ := Aside0.mk (below_step (by repeat (first | (with_reducible first | exact HB.out | apply below_alloc | apply pw_below_drewN | apply below_drew1) | exact HB.out)) hb); clear HB; have HB := n0_; clear n0_; (try clear hb); (try clear hb2); (try clear hk); (try clear hi)))
                go_ret
                exact ⟨by first | rfl | (simp [errW_none, errW_some] <;> rfl) | (simp [*, errW_none, errW_some] <;> rfl), by repeat (first | (with_reducible first | exact HB.out | apply below_alloc | apply pw_below_drewN | apply below_drew1) | exact HB.out)⟩
              · rw [if_neg c24] at H
                have c24b0 : (t146.toList == a1.toList) = false := beq_eq_false_iff_ne.mpr c24
                have c24b1 : (t146.toList != a1.toList) = true := bne_iff_ne.mpr c24
                obtain rfl := Option.some.inj H
                go_wp2_with (first | ((with_reducible refine gate_callee (f := 19) rfl ?_); refine goesL_ (some 33) rfl rfl Try.func19 (by kernel_rfl) rfl #[.string a1, .int .i64 (Int.tmod (wrap64 (a2)) 500), .bool true] rfl (by (try simp only [List.map_toArray, List.map_cons, List.map_nil]); first | done | rfl | (simp only [List.length_drop, List.length_take]; rfl)) ?_; (with_reducible refine (bits_With.calls a1 (Int.tmod (wrap64 (a2)) 500) true t145 _ A20.out).mono ?_); rintro e w29 ⟨rfl, hb⟩; refine ⟨_, rfl, ?_⟩; have n0_ := Aside0.mk (below_step (by repeat (first | (with_reducible first | exact HB.out | apply below_alloc | apply pw_below_drewN | apply below_drew1) | exact HB.out)) hb); clear HB; have HB := n0_; clear n0_; (try clear hb); (try clear hb2); (try clear hk); (try clear hi)) | ((with_reducible refine gate_callee (f := 19) rfl ?_); refine goesL_ (some 36) rfl rfl Try.func19 (by kernel_rfl) rfl #[.string a1, .int .i64 (Int.tmod (wrap64 (a2)) 500), .bool false] rfl (by (try simp only [List.map_toArray, List.map_cons, List.map_nil]); first | done | rfl | (simp only [List.length_drop, List.length_take]; rfl)) ?_; (with_reducible refine (bits_With.calls a1 (Int.tmod (wrap64 (a2)) 500) false t146 _ A21.out).mono ?_); rintro e w30 ⟨rfl, hb⟩; refine ⟨_, rfl, ?_⟩; have n0_ := Aside0.mk (below_step (by repeat (first | (with_reducible first | exact HB.out | apply below_alloc | apply pw_below_drewN | apply below_drew1) | exact HB.out)) hb); clear HB; have HB := n0_; clear n0_; (try clear hb); (try clear hb2); (try clear hk); (try clear hi)))
                go_ret
                exact ⟨by first | rfl | (simp [errW_none, errW_some] <;> rfl) | (simp [*, errW_none, errW_some] <;> rfl), by repeat (first | (with_reducible first | exact HB.out | apply below_alloc | apply pw_below_drewN | apply below_drew1) | exact HB.out)⟩
            · rw [if_neg c23] at H
              have c23b0 : (t145.toList == a1.toList) = false := beq_eq_false_iff_ne.mpr c23
              have c23b1 : (t145.toList != a1.toList) = true := bne_iff_ne.mpr c23
              obtain rfl := Option.some.inj H
              go_wp2_with (first | ((with_reducible refine gate_callee (f := 19) rfl ?_); refine goesL_ (some 33) rfl rfl Try.func19 (by kernel_rfl) rfl #[.string a1, .int .i64 (Int.tmod (wrap64 (a2)) 500), .bool true] rfl (by (try simp only [List.map_toArray, List.map_cons, List.map_nil]); first | done | rfl | (simp only [List.length_drop, List.length_take]; rfl)) ?_; (with_reducible refine (bits_With.calls a1 (Int.tmod (wrap64 (a2)) 500) true t145 _ A20.out).mono ?_); rintro e w31 ⟨rfl, hb⟩; refine ⟨_, rfl, ?_⟩; have n0_ := Aside0.mk (below_step (by repeat (first | (with_reducible first | exact HB.out | apply below_alloc | apply pw_below_drewN | apply below_drew1) | exact HB.out)) hb); clear HB; have HB := n0_; clear n0_; (try clear hb); (try clear hb2); (try clear hk); (try clear hi)) | ((with_reducible refine gate_callee (f := 19) rfl ?_); refine goesL_ (some 36) rfl rfl Try.func19 (by kernel_rfl) rfl #[.string a1, .int .i64 (Int.tmod (wrap64 (a2)) 500), .bool false] rfl (by (try simp only [List.map_toArray, List.map_cons, List.map_nil]); first | done | rfl | (simp only [List.length_drop, List.length_take]; rfl)) ?_; (with_reducible refine (bits_With.calls a1 (Int.tmod (wrap64 (a2)) 500) false t146 _ A21.out).mono ?_); rintro e w32 ⟨rfl, hb⟩; refine ⟨_, rfl, ?_⟩; have n0_ := Aside0.mk (below_step (by repeat (first | (with_reducible first | exact HB.out | apply below_alloc | apply pw_below_drewN | apply below_drew1) | exact HB.out)) hb); clear HB; have HB := n0_; clear n0_; (try clear hb); (try clear hb2); (try clear hk); (try clear hi)))
              go_ret
              exact ⟨by first | rfl | (simp [errW_none, errW_some] <;> rfl) | (simp [*, errW_none, errW_some] <;> rfl), by repeat (first | (with_reducible first | exact HB.out | apply below_alloc | apply pw_below_drewN | apply below_drew1) | exact HB.out)⟩
          · rw [if_neg c22] at H
            have c22b0 : decide ((wrap64 (8 * (a1.size : Int))) ≤ (Int.tmod (wrap64 (a2)) 500)) = false := decide_eq_false c22
            clear c22
            have H' := Aside0.mk H
            clear H
            go_wp2_with (first | ((with_reducible refine gate_callee (f := 19) rfl ?_); refine goesL_ (some 33) rfl rfl Try.func19 (by kernel_rfl) rfl #[.string a1, .int .i64 (Int.tmod (wrap64 (a2)) 500), .bool true] rfl (by (try simp only [List.map_toArray, List.map_cons, List.map_nil]); first | done | rfl | (simp only [List.length_drop, List.length_take]; rfl)) ?_; (with_reducible refine (bits_With.calls a1 (Int.tmod (wrap64 (a2)) 500) true t145 _ A20.out).mono ?_); rintro e w33 ⟨rfl, hb⟩; refine ⟨_, rfl, ?_⟩; have n0_ := Aside0.mk (below_step (by repeat (first | (with_reducible first | exact HB.out | apply below_alloc | apply pw_below_drewN | apply below_drew1) | exact HB.out)) hb); clear HB; have HB := n0_; clear n0_; (try clear hb); (try clear hb2); (try clear hk); (try clear hi)) | ((with_reducible refine gate_callee (f := 19) rfl ?_); refine goesL_ (some 36) rfl rfl Try.func19 (by kernel_rfl) rfl #[.string a1, .int .i64 (Int.tmod (wrap64 (a2)) 500), .bool false] rfl (by (try simp only [List.map_toArray, List.map_cons, List.map_nil]); first | done | rfl | (simp only [List.length_drop, List.length_take]; rfl)) ?_; (with_reducible refine (bits_With.calls a1 (Int.tmod (wrap64 (a2)) 500) false t146 _ A21.out).mono ?_); rintro e w34 ⟨rfl, hb⟩; refine ⟨_, rfl, ?_⟩; have n0_ := Aside0.mk (below_step (by repeat (first | (with_reducible first | exact HB.out | apply below_alloc | apply pw_below_drewN | apply below_drew1) | exact HB.out)) hb); clear HB; have HB := n0_; clear n0_; (try clear hb); (try clear hb2); (try clear hk); (try clear hi)))
            go_loopg [10] kj6 (fun kq v10 w' => ∃ (x10_2 : Int), v10 = .int .i64 x10_2 ∧ Aside0 (lighterlaw02_BitsBack.l0 kq a1 (Int.tmod (wrap64 (a2)) 500) t145 t146 x10_2 = some r) ∧ Aside0 (kq ≤ kj6) ∧ Aside0 (Below w.heap.size w w'))
            case atStart => exact ⟨(0), (by first | rfl | (simp; done) | (simp [*]; done)), H', ⟨Nat.le_refl _⟩, ⟨by repeat (first | (with_reducible first | exact HB.out | apply below_alloc | apply pw_below_drewN | apply below_drew1) | exact HB.out)⟩⟩
            case round =>
              clear H'
              try clear c1
              try clear c2
              try clear p2
              try clear c4
              try clear c4b0
              try clear c4b1
              try clear c5
              try clear p6
              try clear c10
              try clear c10b0
              try clear c10b1
              try clear c12
              try clear c13
              try clear c15
              try clear c19
              try clear c22
              try clear c22b0
              try clear c23
              try clear c23b0
              try clear c23b1
              try clear c24
              try clear c24b0
              try clear c24b1
              try clear p2
              obtain ⟨x10_2, rfl, HA, HK2, HB⟩ := hrel
              cases gk with
              | zero => exact absurd HA.out (by simp [lighterlaw02_BitsBack.l0])
              | succ k2 =>
                have H := HA.out
                clear HA
                simp only [lighterlaw02_BitsBack.l0] at H
                by_cases c35 : x10_2 < (wrap64 (8 * (a1.size : Int)))
                · rw [if_pos c35] at H
                  have c35b0 : decide (x10_2 < (wrap64 (8 * (a1.size : Int)))) = true := decide_eq_true c35
                  clear c35
                  replace H := Option.bind_eq_some_iff.mp H
                  obtain ⟨t148, A360, H⟩ := H
                  replace H : ((bits_Has.f a1 x10_2).bind fun t149 => (if t149 = true then (if t148 = true then ((bits_Has.f t146 x10_2).bind fun t150 => ((bits_Has.f a1 x10_2).bind fun t151 => (if t151 = true then (if (t150 != (x10_2 != (Int.tmod (wrap64 (a2)) 500))) = true then (some false) else (lighterlaw02_BitsBack.l0 k2 a1 (Int.tmod (wrap64 (a2)) 500) t145 t146 (wrap64 (x10_2 + 1)))) else (if t150 = true then (some false) else (lighterlaw02_BitsBack.l0 k2 a1 (Int.tmod (wrap64 (a2)) 500) t145 t146 (wrap64 (x10_2 + 1))))))) else (some false)) else (if (t148 != (x10_2 == (Int.tmod (wrap64 (a2)) 500))) = true then (some false) else ((bits_Has.f t146 x10_2).bind fun t152 => ((bits_Has.f a1 x10_2).bind fun t153 => (if t153 = true then (if (t152 != (x10_2 != (Int.tmod (wrap64 (a2)) 500))) = true then (some false) else (lighterlaw02_BitsBack.l0 k2 a1 (Int.tmod (wrap64 (a2)) 500) t145 t146 (wrap64 (x10_2 + 1)))) else (if t152 = true then (some false) else (lighterlaw02_BitsBack.l0 k2 a1 (Int.tmod (wrap64 (a2)) 500) t145 t146 (wrap64 (x10_2 + 1)))))))))) = some r := H
                  have A36 := Aside0.mk A360
                  clear A360
                  replace H := Option.bind_eq_some_iff.mp H
                  obtain ⟨t149, A370, H⟩ := H
                  replace H : (if t149 = true then (if t148 = true then ((bits_Has.f t146 x10_2).bind fun t150 => ((bits_Has.f a1 x10_2).bind fun t151 => (if t151 = true then (if (t150 != (x10_2 != (Int.tmod (wrap64 (a2)) 500))) = true then (some false) else (lighterlaw02_BitsBack.l0 k2 a1 (Int.tmod (wrap64 (a2)) 500) t145 t146 (wrap64 (x10_2 + 1)))) else (if t150 = true then (some false) else (lighterlaw02_BitsBack.l0 k2 a1 (Int.tmod (wrap64 (a2)) 500) t145 t146 (wrap64 (x10_2 + 1))))))) else (some false)) else (if (t148 != (x10_2 == (Int.tmod (wrap64 (a2)) 500))) = true then (some false) else ((bits_Has.f t146 x10_2).bind fun t152 => ((bits_Has.f a1 x10_2).bind fun t153 => (if t153 = true then (if (t152 != (x10_2 != (Int.tmod (wrap64 (a2)) 500))) = true then (some false) else (lighterlaw02_BitsBack.l0 k2 a1 (Int.tmod (wrap64 (a2)) 500) t145 t146 (wrap64 (x10_2 + 1)))) else (if t152 = true then (some false) else (lighterlaw02_BitsBack.l0 k2 a1 (Int.tmod (wrap64 (a2)) 500) t145 t146 (wrap64 (x10_2 + 1))))))))) = some r := H
                  have A37 := Aside0.mk A370
                  clear A370
                  by_cases c38 : t149 = true
                  · subst c38
                    have H1 : (if t148 = true then ((bits_Has.f t146 x10_2).bind fun t150 => ((bits_Has.f a1 x10_2).bind fun t151 => (if t151 = true then (if (t150 != (x10_2 != (Int.tmod (wrap64 (a2)) 500))) = true then (some false) else (lighterlaw02_BitsBack.l0 k2 a1 (Int.tmod (wrap64 (a2)) 500) t145 t146 (wrap64 (x10_2 + 1)))) else (if t150 = true then (some false) else (lighterlaw02_BitsBack.l0 k2 a1 (Int.tmod (wrap64 (a2)) 500) t145 t146 (wrap64 (x10_2 + 1))))))) else (some false)) = some r := by rw [if_pos rfl] at H; exact H
                    clear H
                    have H := H1
                    clear H1
                    by_cases c39 : t148 = true
                    · subst c39
                      have H1 : ((bits_Has.f t146 x10_2).bind fun t150 => ((bits_Has.f a1 x10_2).bind fun t151 => (if t151 = true then (if (t150 != (x10_2 != (Int.tmod (wrap64 (a2)) 500))) = true then (some false) else (lighterlaw02_BitsBack.l0 k2 a1 (Int.tmod (wrap64 (a2)) 500) t145 t146 (wrap64 (x10_2 + 1)))) else (if t150 = true then (some false) else (lighterlaw02_BitsBack.l0 k2 a1 (Int.tmod (wrap64 (a2)) 500) t145 t146 (wrap64 (x10_2 + 1))))))) = some r := by rw [if_pos rfl] at H; exact H
                      clear H
                      have H := H1
                      clear H1
                      replace H := Option.bind_eq_some_iff.mp H
                      obtain ⟨t150, A400, H⟩ := H
                      replace H : ((bits_Has.f a1 x10_2).bind fun t151 => (if t151 = true then (if (t150 != (x10_2 != (Int.tmod (wrap64 (a2)) 500))) = true then (some false) else (lighterlaw02_BitsBack.l0 k2 a1 (Int.tmod (wrap64 (a2)) 500) t145 t146 (wrap64 (x10_2 + 1)))) else (if t150 = true then (some false) else (lighterlaw02_BitsBack.l0 k2 a1 (Int.tmod (wrap64 (a2)) 500) t145 t146 (wrap64 (x10_2 + 1)))))) = some r := H
                      have A40 := Aside0.mk A400
                      clear A400
                      replace H := Option.bind_eq_some_iff.mp H
                      obtain ⟨t151, A410, H⟩ := H
                      replace H : (if t151 = true then (if (t150 != (x10_2 != (Int.tmod (wrap64 (a2)) 500))) = true then (some false) else (lighterlaw02_BitsBack.l0 k2 a1 (Int.tmod (wrap64 (a2)) 500) t145 t146 (wrap64 (x10_2 + 1)))) else (if t150 = true then (some false) else (lighterlaw02_BitsBack.l0 k2 a1 (Int.tmod (wrap64 (a2)) 500) t145 t146 (wrap64 (x10_2 + 1))))) = some r := H
                      have A41 := Aside0.mk A410
                      clear A410
                      by_cases c42 : t151 = true
                      · subst c42
                        have H1 : (if (t150 != (x10_2 != (Int.tmod (wrap64 (a2)) 500))) = true then (some false) else (lighterlaw02_BitsBack.l0 k2 a1 (Int.tmod (wrap64 (a2)) 500) t145 t146 (wrap64 (x10_2 + 1)))) = some r := by rw [if_pos rfl] at H; exact H
                        clear H
                        have H := H1
                        clear H1
                        by_cases c43 : (t150 != (x10_2 != (Int.tmod (wrap64 (a2)) 500))) = true
                        · rw [if_pos c43] at H
                          have c43b0 : (t150 != (x10_2 != (Int.tmod (wrap64 (a2)) 500))) = true := c43
                          (try (have c43b1 : decide (t150 = (x10_2 != (Int.tmod (wrap64 (a2)) 500))) = false := by simpa using c43))
                          (try (have c43b2 : (t150 == (x10_2 != (Int.tmod (wrap64 (a2)) 500))) = false := by simpa using c43))
                          (try (have c43b3 : ¬ (t150 = (x10_2 != (Int.tmod (wrap64 (a2)) 500))) := by simpa using c43))
                          clear c43
                          obtain rfl := Option.some.inj H
                          go_wp2_with (first | ((with_reducible refine gate_callee (f := 17) rfl ?_); refine goesL_ (some 62) rfl rfl Try.func17 (by kernel_rfl) rfl #[.string t145, .int .i64 x10_2] rfl (by (try simp only [List.map_toArray, List.map_cons, List.map_nil]); first | done | rfl | (simp only [List.length_drop, List.length_take]; rfl)) ?_; (with_reducible refine (bits_Has.calls t145 x10_2 true _ A36.out).mono ?_); rintro e w' ⟨rfl, ⟨nd, rfl⟩⟩; refine ⟨_, rfl, ?_⟩) | ((with_reducible refine gate_callee (f := 17) rfl ?_); refine goesL_ (some 65) rfl rfl Try.func17 (by kernel_rfl) rfl #[.string a1, .int .i64 x10_2] rfl (by (try simp only [List.map_toArray, List.map_cons, List.map_nil]); first | done | rfl | (simp only [List.length_drop, List.length_take]; rfl)) ?_; (with_reducible refine (bits_Has.calls a1 x10_2 true _ A37.out).mono ?_); rintro e w' ⟨rfl, ⟨nd, rfl⟩⟩; refine ⟨_, rfl, ?_⟩) | (go_at_call 17; (with_reducible refine (bits_Has.calls t146 x10_2 t150 _ A40.out).mono ?_); rintro e w' ⟨rfl, ⟨nd, rfl⟩⟩) | (go_at_call 17; (with_reducible refine (bits_Has.calls a1 x10_2 true _ A41.out).mono ?_); rintro e w' ⟨rfl, ⟨nd, rfl⟩⟩))
                          go_ret
                          exact ⟨by first | rfl | (simp [errW_none, errW_some] <;> rfl) | (simp [*, errW_none, errW_some] <;> rfl), by repeat (first | (with_reducible first | exact HB.out | apply below_alloc | apply pw_below_drewN | apply below_drew1) | exact HB.out)⟩
                        · rw [if_neg c43] at H
                          have c43b0 : (t150 != (x10_2 != (Int.tmod (wrap64 (a2)) 500))) = false := by simpa using c43
                          (try (have c43b1 : decide (t150 = (x10_2 != (Int.tmod (wrap64 (a2)) 500))) = true := by simpa using c43))
                          (try (have c43b2 : (t150 == (x10_2 != (Int.tmod (wrap64 (a2)) 500))) = true := by simpa using c43))
                          clear c43
                          have H' := Aside0.mk H
                          clear H
                          go_wp2_with (first | ((with_reducible refine gate_callee (f := 17) rfl ?_); refine goesL_ (some 62) rfl rfl Try.func17 (by kernel_rfl) rfl #[.string t145, .int .i64 x10_2] rfl (by (try simp only [List.map_toArray, List.map_cons, List.map_nil]); first | done | rfl | (simp only [List.length_drop, List.length_take]; rfl)) ?_; (with_reducible refine (bits_Has.calls t145 x10_2 true _ A36.out).mono ?_); rintro e w' ⟨rfl, ⟨nd, rfl⟩⟩; refine ⟨_, rfl, ?_⟩) | ((with_reducible refine gate_callee (f := 17) rfl ?_); refine goesL_ (some 65) rfl rfl Try.func17 (by kernel_rfl) rfl #[.string a1, .int .i64 x10_2] rfl (by (try simp only [List.map_toArray, List.map_cons, List.map_nil]); first | done | rfl | (simp only [List.length_drop, List.length_take]; rfl)) ?_; (with_reducible refine (bits_Has.calls a1 x10_2 true _ A37.out).mono ?_); rintro e w' ⟨rfl, ⟨nd, rfl⟩⟩; refine ⟨_, rfl, ?_⟩) | (go_at_call 17; (with_reducible refine (bits_Has.calls t146 x10_2 t150 _ A40.out).mono ?_); rintro e w' ⟨rfl, ⟨nd, rfl⟩⟩) | (go_at_call 17; (with_reducible refine (bits_Has.calls a1 x10_2 true _ A41.out).mono ?_); rintro e w' ⟨rfl, ⟨nd, rfl⟩⟩))
                          go_roundg k2
                          case measure => have := HJ6.out; have := HK2.out; omega
                          case rel => exact ⟨(wrap64 (x10_2 + 1)), (by first | rfl | (simp; done) | (simp [*]; done)), H', ⟨by have := HJ6.out; have := HK2.out; omega⟩, ⟨by repeat (first | (with_reducible first | exact HB.out | apply below_alloc | apply pw_below_drewN | apply below_drew1) | exact HB.out)⟩⟩
                      · replace c42 := Bool.eq_false_iff.mpr c42
                        subst c42
                        have H1 : (if t150 = true then (some false) else (lighterlaw02_BitsBack.l0 k2 a1 (Int.tmod (wrap64 (a2)) 500) t145 t146 (wrap64 (x10_2 + 1)))) = some r := by rw [if_neg (show ¬ (false = true) by decide)] at H; exact H
                        clear H
                        have H := H1
                        clear H1
                        by_cases c44 : t150 = true
                        · subst c44
                          have H1 : (some false) = some r := by rw [if_pos rfl] at H; exact H
                          clear H
                          have H := H1
                          clear H1
                          obtain rfl := Option.some.inj H
                          go_wp2_with (first | ((with_reducible refine gate_callee (f := 17) rfl ?_); refine goesL_ (some 62) rfl rfl Try.func17 (by kernel_rfl) rfl #[.string t145, .int .i64 x10_2] rfl (by (try simp only [List.map_toArray, List.map_cons, List.map_nil]); first | done | rfl | (simp only [List.length_drop, List.length_take]; rfl)) ?_; (with_reducible refine (bits_Has.calls t145 x10_2 true _ A36.out).mono ?_); rintro e w' ⟨rfl, ⟨nd, rfl⟩⟩; refine ⟨_, rfl, ?_⟩) | ((with_reducible refine gate_callee (f := 17) rfl ?_); refine goesL_ (some 65) rfl rfl Try.func17 (by kernel_rfl) rfl #[.string a1, .int .i64 x10_2] rfl (by (try simp only [List.map_toArray, List.map_cons, List.map_nil]); first | done | rfl | (simp only [List.length_drop, List.length_take]; rfl)) ?_; (with_reducible refine (bits_Has.calls a1 x10_2 true _ A37.out).mono ?_); rintro e w' ⟨rfl, ⟨nd, rfl⟩⟩; refine ⟨_, rfl, ?_⟩) | (go_at_call 17; (with_reducible refine (bits_Has.calls t146 x10_2 true _ A40.out).mono ?_); rintro e w' ⟨rfl, ⟨nd, rfl⟩⟩) | (go_at_call 17; (with_reducible refine (bits_Has.calls a1 x10_2 false _ A41.out).mono ?_); rintro e w' ⟨rfl, ⟨nd, rfl⟩⟩))
                          go_ret
                          exact ⟨by first | rfl | (simp [errW_none, errW_some] <;> rfl) | (simp [*, errW_none, errW_some] <;> rfl), by repeat (first | (with_reducible first | exact HB.out | apply below_alloc | apply pw_below_drewN | apply below_drew1) | exact HB.out)⟩
                        · replace c44 := Bool.eq_false_iff.mpr c44
                          subst c44
                          have H1 : (lighterlaw02_BitsBack.l0 k2 a1 (Int.tmod (wrap64 (a2)) 500) t145 t146 (wrap64 (x10_2 + 1))) = some r := by rw [if_neg (show ¬ (false = true) by decide)] at H; exact H
                          clear H
                          have H := H1
                          clear H1
                          have H' := Aside0.mk H
                          clear H
                          go_wp2_with (first | ((with_reducible refine gate_callee (f := 17) rfl ?_); refine goesL_ (some 62) rfl rfl Try.func17 (by kernel_rfl) rfl #[.string t145, .int .i64 x10_2] rfl (by (try simp only [List.map_toArray, List.map_cons, List.map_nil]); first | done | rfl | (simp only [List.length_drop, List.length_take]; rfl)) ?_; (with_reducible refine (bits_Has.calls t145 x10_2 true _ A36.out).mono ?_); rintro e w' ⟨rfl, ⟨nd, rfl⟩⟩; refine ⟨_, rfl, ?_⟩) | ((with_reducible refine gate_callee (f := 17) rfl ?_); refine goesL_ (some 65) rfl rfl Try.func17 (by kernel_rfl) rfl #[.string a1, .int .i64 x10_2] rfl (by (try simp only [List.map_toArray, List.map_cons, List.map_nil]); first | done | rfl | (simp only [List.length_drop, List.length_take]; rfl)) ?_; (with_reducible refine (bits_Has.calls a1 x10_2 true _ A37.out).mono ?_); rintro e w' ⟨rfl, ⟨nd, rfl⟩⟩; refine ⟨_, rfl, ?_⟩) | (go_at_call 17; (with_reducible refine (bits_Has.calls t146 x10_2 false _ A40.out).mono ?_); rintro e w' ⟨rfl, ⟨nd, rfl⟩⟩) | (go_at_call 17; (with_reducible refine (bits_Has.calls a1 x10_2 false _ A41.out).mono ?_); rintro e w' ⟨rfl, ⟨nd, rfl⟩⟩))
                          go_roundg k2
                          case measure => have := HJ6.out; have := HK2.out; omega
                          case rel => exact ⟨(wrap64 (x10_2 + 1)), (by first | rfl | (simp; done) | (simp [*]; done)), H', ⟨by have := HJ6.out; have := HK2.out; omega⟩, ⟨by repeat (first | (with_reducible first | exact HB.out | apply below_alloc | apply pw_below_drewN | apply below_drew1) | exact HB.out)⟩⟩
                    · replace c39 := Bool.eq_false_iff.mpr c39
                      subst c39
                      have H1 : (some false) = some r := by rw [if_neg (show ¬ (false = true) by decide)] at H; exact H
                      clear H
                      have H := H1
                      clear H1
                      obtain rfl := Option.some.inj H
                      go_wp2_with (first | ((with_reducible refine gate_callee (f := 17) rfl ?_); refine goesL_ (some 62) rfl rfl Try.func17 (by kernel_rfl) rfl #[.string t145, .int .i64 x10_2] rfl (by (try simp only [List.map_toArray, List.map_cons, List.map_nil]); first | done | rfl | (simp only [List.length_drop, List.length_take]; rfl)) ?_; (with_reducible refine (bits_Has.calls t145 x10_2 false _ A36.out).mono ?_); rintro e w' ⟨rfl, ⟨nd, rfl⟩⟩; refine ⟨_, rfl, ?_⟩) | ((with_reducible refine gate_callee (f := 17) rfl ?_); refine goesL_ (some 65) rfl rfl Try.func17 (by kernel_rfl) rfl #[.string a1, .int .i64 x10_2] rfl (by (try simp only [List.map_toArray, List.map_cons, List.map_nil]); first | done | rfl | (simp only [List.length_drop, List.length_take]; rfl)) ?_; (with_reducible refine (bits_Has.calls a1 x10_2 true _ A37.out).mono ?_); rintro e w' ⟨rfl, ⟨nd, rfl⟩⟩; refine ⟨_, rfl, ?_⟩))
                      go_ret
                      exact ⟨by first | rfl | (simp [errW_none, errW_some] <;> rfl) | (simp [*, errW_none, errW_some] <;> rfl), by repeat (first | (with_reducible first | exact HB.out | apply below_alloc | apply pw_below_drewN | apply below_drew1) | exact HB.out)⟩
                  · replace c38 := Bool.eq_false_iff.mpr c38
                    subst c38
                    have H1 : (if (t148 != (x10_2 == (Int.tmod (wrap64 (a2)) 500))) = true then (some false) else ((bits_Has.f t146 x10_2).bind fun t152 => ((bits_Has.f a1 x10_2).bind fun t153 => (if t153 = true then (if (t152 != (x10_2 != (Int.tmod (wrap64 (a2)) 500))) = true then (some false) else (lighterlaw02_BitsBack.l0 k2 a1 (Int.tmod (wrap64 (a2)) 500) t145 t146 (wrap64 (x10_2 + 1)))) else (if t152 = true then (some false) else (lighterlaw02_BitsBack.l0 k2 a1 (Int.tmod (wrap64 (a2)) 500) t145 t146 (wrap64 (x10_2 + 1)))))))) = some r := by rw [if_neg (show ¬ (false = true) by decide)] at H; exact H
                    clear H
                    have H := H1
                    clear H1
                    by_cases c45 : (t148 != (x10_2 == (Int.tmod (wrap64 (a2)) 500))) = true
                    · rw [if_pos c45] at H
                      have c45b0 : (t148 != (x10_2 == (Int.tmod (wrap64 (a2)) 500))) = true := c45
                      (try (have c45b1 : decide (t148 = (x10_2 == (Int.tmod (wrap64 (a2)) 500))) = false := by simpa using c45))
                      (try (have c45b2 : (t148 == (x10_2 == (Int.tmod (wrap64 (a2)) 500))) = false := by simpa using c45))
                      (try (have c45b3 : ¬ (t148 = (x10_2 == (Int.tmod (wrap64 (a2)) 500))) := by simpa using c45))
                      clear c45
                      obtain rfl := Option.some.inj H
                      go_wp2_with (first | ((with_reducible refine gate_callee (f := 17) rfl ?_); refine goesL_ (some 62) rfl rfl Try.func17 (by kernel_rfl) rfl #[.string t145, .int .i64 x10_2] rfl (by (try simp only [List.map_toArray, List.map_cons, List.map_nil]); first | done | rfl | (simp only [List.length_drop, List.length_take]; rfl)) ?_; (with_reducible refine (bits_Has.calls t145 x10_2 t148 _ A36.out).mono ?_); rintro e w' ⟨rfl, ⟨nd, rfl⟩⟩; refine ⟨_, rfl, ?_⟩) | ((with_reducible refine gate_callee (f := 17) rfl ?_); refine goesL_ (some 65) rfl rfl Try.func17 (by kernel_rfl) rfl #[.string a1, .int .i64 x10_2] rfl (by (try simp only [List.map_toArray, List.map_cons, List.map_nil]); first | done | rfl | (simp only [List.length_drop, List.length_take]; rfl)) ?_; (with_reducible refine (bits_Has.calls a1 x10_2 false _ A37.out).mono ?_); rintro e w' ⟨rfl, ⟨nd, rfl⟩⟩; refine ⟨_, rfl, ?_⟩))
                      go_ret
                      exact ⟨by first | rfl | (simp [errW_none, errW_some] <;> rfl) | (simp [*, errW_none, errW_some] <;> rfl), by repeat (first | (with_reducible first | exact HB.out | apply below_alloc | apply pw_below_drewN | apply below_drew1) | exact HB.out)⟩
                    · rw [if_neg c45] at H
                      have c45b0 : (t148 != (x10_2 == (Int.tmod (wrap64 (a2)) 500))) = false := by simpa using c45
                      (try (have c45b1 : decide (t148 = (x10_2 == (Int.tmod (wrap64 (a2)) 500))) = true := by simpa using c45))
                      (try (have c45b2 : (t148 == (x10_2 == (Int.tmod (wrap64 (a2)) 500))) = true := by simpa using c45))
                      clear c45
                      replace H := Option.bind_eq_some_iff.mp H
                      obtain ⟨t152, A460, H⟩ := H
                      replace H : ((bits_Has.f a1 x10_2).bind fun t153 => (if t153 = true then (if (t152 != (x10_2 != (Int.tmod (wrap64 (a2)) 500))) = true then (some false) else (lighterlaw02_BitsBack.l0 k2 a1 (Int.tmod (wrap64 (a2)) 500) t145 t146 (wrap64 (x10_2 + 1)))) else (if t152 = true then (some false) else (lighterlaw02_BitsBack.l0 k2 a1 (Int.tmod (wrap64 (a2)) 500) t145 t146 (wrap64 (x10_2 + 1)))))) = some r := H
                      have A46 := Aside0.mk A460
                      clear A460
                      replace H := Option.bind_eq_some_iff.mp H
                      obtain ⟨t153, A470, H⟩ := H
                      replace H : (if t153 = true then (if (t152 != (x10_2 != (Int.tmod (wrap64 (a2)) 500))) = true then (some false) else (lighterlaw02_BitsBack.l0 k2 a1 (Int.tmod (wrap64 (a2)) 500) t145 t146 (wrap64 (x10_2 + 1)))) else (if t152 = true then (some false) else (lighterlaw02_BitsBack.l0 k2 a1 (Int.tmod (wrap64 (a2)) 500) t145 t146 (wrap64 (x10_2 + 1))))) = some r := H
                      have A47 := Aside0.mk A470
                      clear A470
                      by_cases c48 : t153 = true
                      · subst c48
                        have H1 : (if (t152 != (x10_2 != (Int.tmod (wrap64 (a2)) 500))) = true then (some false) else (lighterlaw02_BitsBack.l0 k2 a1 (Int.tmod (wrap64 (a2)) 500) t145 t146 (wrap64 (x10_2 + 1)))) = some r := by rw [if_pos rfl] at H; exact H
                        clear H
                        have H := H1
                        clear H1
                        by_cases c49 : (t152 != (x10_2 != (Int.tmod (wrap64 (a2)) 500))) = true
                        · rw [if_pos c49] at H
                          have c49b0 : (t152 != (x10_2 != (Int.tmod (wrap64 (a2)) 500))) = true := c49
                          (try (have c49b1 : decide (t152 = (x10_2 != (Int.tmod (wrap64 (a2)) 500))) = false := by simpa using c49))
                          (try (have c49b2 : (t152 == (x10_2 != (Int.tmod (wrap64 (a2)) 500))) = false := by simpa using c49))
                          (try (have c49b3 : ¬ (t152 = (x10_2 != (Int.tmod (wrap64 (a2)) 500))) := by simpa using c49))
                          clear c49
                          obtain rfl := Option.some.inj H
                          go_wp2_with (first | ((with_reducible refine gate_callee (f := 17) rfl ?_); refine goesL_ (some 62) rfl rfl Try.func17 (by kernel_rfl) rfl #[.string t145, .int .i64 x10_2] rfl (by (try simp only [List.map_toArray, List.map_cons, List.map_nil]); first | done | rfl | (simp only [List.length_drop, List.length_take]; rfl)) ?_; (with_reducible refine (bits_Has.calls t145 x10_2 t148 _ A36.out).mono ?_); rintro e w' ⟨rfl, ⟨nd, rfl⟩⟩; refine ⟨_, rfl, ?_⟩) | ((with_reducible refine gate_callee (f := 17) rfl ?_); refine goesL_ (some 65) rfl rfl Try.func17 (by kernel_rfl) rfl #[.string a1, .int .i64 x10_2] rfl (by (try simp only [List.map_toArray, List.map_cons, List.map_nil]); first | done | rfl | (simp only [List.length_drop, List.length_take]; rfl)) ?_; (with_reducible refine (bits_Has.calls a1 x10_2 false _ A37.out).mono ?_); rintro e w' ⟨rfl, ⟨nd, rfl⟩⟩; refine ⟨_, rfl, ?_⟩) | (go_at_call 17; (with_reducible refine (bits_Has.calls t146 x10_2 t152 _ A46.out).mono ?_); rintro e w' ⟨rfl, ⟨nd, rfl⟩⟩) | (go_at_call 17; (with_reducible refine (bits_Has.calls a1 x10_2 true _ A47.out).mono ?_); rintro e w' ⟨rfl, ⟨nd, rfl⟩⟩))
                          go_ret
                          exact ⟨by first | rfl | (simp [errW_none, errW_some] <;> rfl) | (simp [*, errW_none, errW_some] <;> rfl), by repeat (first | (with_reducible first | exact HB.out | apply below_alloc | apply pw_below_drewN | apply below_drew1) | exact HB.out)⟩
                        · rw [if_neg c49] at H
                          have c49b0 : (t152 != (x10_2 != (Int.tmod (wrap64 (a2)) 500))) = false := by simpa using c49
                          (try (have c49b1 : decide (t152 = (x10_2 != (Int.tmod (wrap64 (a2)) 500))) = true := by simpa using c49))
                          (try (have c49b2 : (t152 == (x10_2 != (Int.tmod (wrap64 (a2)) 500))) = true := by simpa using c49))
                          clear c49
                          have H' := Aside0.mk H
                          clear H
                          go_wp2_with (first | ((with_reducible refine gate_callee (f := 17) rfl ?_); refine goesL_ (some 62) rfl rfl Try.func17 (by kernel_rfl) rfl #[.string t145, .int .i64 x10_2] rfl (by (try simp only [List.map_toArray, List.map_cons, List.map_nil]); first | done | rfl | (simp only [List.length_drop, List.length_take]; rfl)) ?_; (with_reducible refine (bits_Has.calls t145 x10_2 t148 _ A36.out).mono ?_); rintro e w' ⟨rfl, ⟨nd, rfl⟩⟩; refine ⟨_, rfl, ?_⟩) | ((with_reducible refine gate_callee (f := 17) rfl ?_); refine goesL_ (some 65) rfl rfl Try.func17 (by kernel_rfl) rfl #[.string a1, .int .i64 x10_2] rfl (by (try simp only [List.map_toArray, List.map_cons, List.map_nil]); first | done | rfl | (simp only [List.length_drop, List.length_take]; rfl)) ?_; (with_reducible refine (bits_Has.calls a1 x10_2 false _ A37.out).mono ?_); rintro e w' ⟨rfl, ⟨nd, rfl⟩⟩; refine ⟨_, rfl, ?_⟩) | (go_at_call 17; (with_reducible refine (bits_Has.calls t146 x10_2 t152 _ A46.out).mono ?_); rintro e w' ⟨rfl, ⟨nd, rfl⟩⟩) | (go_at_call 17; (with_reducible refine (bits_Has.calls a1 x10_2 true _ A47.out).mono ?_); rintro e w' ⟨rfl, ⟨nd, rfl⟩⟩))
                          go_roundg k2
                          case measure => have := HJ6.out; have := HK2.out; omega
                          case rel => exact ⟨(wrap64 (x10_2 + 1)), (by first | rfl | (simp; done) | (simp [*]; done)), H', ⟨by have := HJ6.out; have := HK2.out; omega⟩, ⟨by repeat (first | (with_reducible first | exact HB.out | apply below_alloc | apply pw_below_drewN | apply below_drew1) | exact HB.out)⟩⟩
                      · replace c48 := Bool.eq_false_iff.mpr c48
                        subst c48
                        have H1 : (if t152 = true then (some false) else (lighterlaw02_BitsBack.l0 k2 a1 (Int.tmod (wrap64 (a2)) 500) t145 t146 (wrap64 (x10_2 + 1)))) = some r := by rw [if_neg (show ¬ (false = true) by decide)] at H; exact H
                        clear H
                        have H := H1
                        clear H1
                        by_cases c50 : t152 = true
                        · subst c50
                          have H1 : (some false) = some r := by rw [if_pos rfl] at H; exact H
                          clear H
                          have H := H1
                          clear H1
                          obtain rfl := Option.some.inj H
                          go_wp2_with (first | ((with_reducible refine gate_callee (f := 17) rfl ?_); refine goesL_ (some 62) rfl rfl Try.func17 (by kernel_rfl) rfl #[.string t145, .int .i64 x10_2] rfl (by (try simp only [List.map_toArray, List.map_cons, List.map_nil]); first | done | rfl | (simp only [List.length_drop, List.length_take]; rfl)) ?_; (with_reducible refine (bits_Has.calls t145 x10_2 t148 _ A36.out).mono ?_); rintro e w' ⟨rfl, ⟨nd, rfl⟩⟩; refine ⟨_, rfl, ?_⟩) | ((with_reducible refine gate_callee (f := 17) rfl ?_); refine goesL_ (some 65) rfl rfl Try.func17 (by kernel_rfl) rfl #[.string a1, .int .i64 x10_2] rfl (by (try simp only [List.map_toArray, List.map_cons, List.map_nil]); first | done | rfl | (simp only [List.length_drop, List.length_take]; rfl)) ?_; (with_reducible refine (bits_Has.calls a1 x10_2 false _ A37.out).mono ?_); rintro e w' ⟨rfl, ⟨nd, rfl⟩⟩; refine ⟨_, rfl, ?_⟩) | (go_at_call 17; (with_reducible refine (bits_Has.calls t146 x10_2 true _ A46.out).mono ?_); rintro e w' ⟨rfl, ⟨nd, rfl⟩⟩) | (go_at_call 17; (with_reducible refine (bits_Has.calls a1 x10_2 false _ A47.out).mono ?_); rintro e w' ⟨rfl, ⟨nd, rfl⟩⟩))
                          go_ret
                          exact ⟨by first | rfl | (simp [errW_none, errW_some] <;> rfl) | (simp [*, errW_none, errW_some] <;> rfl), by repeat (first | (with_reducible first | exact HB.out | apply below_alloc | apply pw_below_drewN | apply below_drew1) | exact HB.out)⟩
                        · replace c50 := Bool.eq_false_iff.mpr c50
                          subst c50
                          have H1 : (lighterlaw02_BitsBack.l0 k2 a1 (Int.tmod (wrap64 (a2)) 500) t145 t146 (wrap64 (x10_2 + 1))) = some r := by rw [if_neg (show ¬ (false = true) by decide)] at H; exact H
                          clear H
                          have H := H1
                          clear H1
                          have H' := Aside0.mk H
                          clear H
                          go_wp2_with (first | ((with_reducible refine gate_callee (f := 17) rfl ?_); refine goesL_ (some 62) rfl rfl Try.func17 (by kernel_rfl) rfl #[.string t145, .int .i64 x10_2] rfl (by (try simp only [List.map_toArray, List.map_cons, List.map_nil]); first | done | rfl | (simp only [List.length_drop, List.length_take]; rfl)) ?_; (with_reducible refine (bits_Has.calls t145 x10_2 t148 _ A36.out).mono ?_); rintro e w' ⟨rfl, ⟨nd, rfl⟩⟩; refine ⟨_, rfl, ?_⟩) | ((with_reducible refine gate_callee (f := 17) rfl ?_); refine goesL_ (some 65) rfl rfl Try.func17 (by kernel_rfl) rfl #[.string a1, .int .i64 x10_2] rfl (by (try simp only [List.map_toArray, List.map_cons, List.map_nil]); first | done | rfl | (simp only [List.length_drop, List.length_take]; rfl)) ?_; (with_reducible refine (bits_Has.calls a1 x10_2 false _ A37.out).mono ?_); rintro e w' ⟨rfl, ⟨nd, rfl⟩⟩; refine ⟨_, rfl, ?_⟩) | (go_at_call 17; (with_reducible refine (bits_Has.calls t146 x10_2 false _ A46.out).mono ?_); rintro e w' ⟨rfl, ⟨nd, rfl⟩⟩) | (go_at_call 17; (with_reducible refine (bits_Has.calls a1 x10_2 false _ A47.out).mono ?_); rintro e w' ⟨rfl, ⟨nd, rfl⟩⟩))
                          go_roundg k2
                          case measure => have := HJ6.out; have := HK2.out; omega
                          case rel => exact ⟨(wrap64 (x10_2 + 1)), (by first | rfl | (simp; done) | (simp [*]; done)), H', ⟨by have := HJ6.out; have := HK2.out; omega⟩, ⟨by repeat (first | (with_reducible first | exact HB.out | apply below_alloc | apply pw_below_drewN | apply below_drew1) | exact HB.out)⟩⟩
                · rw [if_neg c35] at H
                  have c35b0 : decide (x10_2 < (wrap64 (8 * (a1.size : Int)))) = false := decide_eq_false c35
                  clear c35
                  replace H := Option.bind_eq_some_iff.mp H
                  obtain ⟨t154, A510, H⟩ := H
                  replace H : ((bits_Count.f k2 t146).bind fun t155 => (if t154 = (wrap64 (t155 + 1)) then ((bits_Has.f a1 (Int.tmod (wrap64 (a2)) 500)).bind fun t156 => ((bits_With.f t145 (Int.tmod (wrap64 (a2)) 500) t156).bind fun t157 => (if t157.toList = a1.toList then ((lighterlaw02_shown.f k2).bind fun t158 => (some t158)) else (some false)))) else (some false))) = some r := H
                  have A51 := Aside0.mk A510
                  clear A510
                  replace H := Option.bind_eq_some_iff.mp H
                  obtain ⟨t155, A520, H⟩ := H
                  replace H : (if t154 = (wrap64 (t155 + 1)) then ((bits_Has.f a1 (Int.tmod (wrap64 (a2)) 500)).bind fun t156 => ((bits_With.f t145 (Int.tmod (wrap64 (a2)) 500) t156).bind fun t157 => (if t157.toList = a1.toList then ((lighterlaw02_shown.f k2).bind fun t158 => (some t158)) else (some false)))) else (some false)) = some r := H
                  have A52 := Aside0.mk A520
                  clear A520
                  by_cases c53 : t154 = (wrap64 (t155 + 1))
                  · rw [if_pos c53] at H
                    have c53b0 : (t154 == (wrap64 (t155 + 1))) = true := beq_iff_eq.mpr c53
                    have c53b1 : (t154 != (wrap64 (t155 + 1))) = false := bne_eq_false_iff_eq.mpr c53
                    clear c53
                    replace H := Option.bind_eq_some_iff.mp H
                    obtain ⟨t156, A540, H⟩ := H
                    replace H : ((bits_With.f t145 (Int.tmod (wrap64 (a2)) 500) t156).bind fun t157 => (if t157.toList = a1.toList then ((lighterlaw02_shown.f k2).bind fun t158 => (some t158)) else (some false))) = some r := H
                    have A54 := Aside0.mk A540
                    clear A540
                    replace H := Option.bind_eq_some_iff.mp H
                    obtain ⟨t157, A550, H⟩ := H
                    replace H : (if t157.toList = a1.toList then ((lighterlaw02_shown.f k2).bind fun t158 => (some t158)) else (some false)) = some r := H
                    have A55 := Aside0.mk A550
                    clear A550
                    by_cases c56 : t157.toList = a1.toList
                    · rw [if_pos c56] at H
                      have c56b0 : (t157.toList == a1.toList) = true := beq_iff_eq.mpr c56
                      have c56b1 : (t157.toList != a1.toList) = false := bne_eq_false_iff_eq.mpr c56
                      clear c56
                      replace H := Option.bind_eq_some_iff.mp H
                      obtain ⟨t158, A570, H⟩ := H
                      replace H : (some t158) = some r := H
                      have A57 := Aside0.mk A570
                      clear A570
                      obtain rfl := Option.some.inj H
                      go_wp2_with (first | ((with_reducible refine gate_callee (f := 23) rfl ?_); refine goesL_ (some 87) rfl rfl Try.func23 (by kernel_rfl) rfl #[.string t145] rfl (by (try simp only [List.map_toArray, List.map_cons, List.map_nil]); first | done | rfl | (simp only [List.length_drop, List.length_take]; rfl)) ?_; (with_reducible refine (bits_Count.calls k2 t145 t154 _ A51.out).mono ?_); rintro e w' ⟨rfl, ⟨nd, rfl⟩⟩; refine ⟨_, rfl, ?_⟩) | ((with_reducible refine gate_callee (f := 23) rfl ?_); refine goesL_ (some 89) rfl rfl Try.func23 (by kernel_rfl) rfl #[.string t146] rfl (by (try simp only [List.map_toArray, List.map_cons, List.map_nil]); first | done | rfl | (simp only [List.length_drop, List.length_take]; rfl)) ?_; (with_reducible refine (bits_Count.calls k2 t146 t155 _ A52.out).mono ?_); rintro e w' ⟨rfl, ⟨nd, rfl⟩⟩; refine ⟨_, rfl, ?_⟩) | (go_at_call 17; (with_reducible refine (bits_Has.calls a1 (Int.tmod (wrap64 (a2)) 500) t156 _ A54.out).mono ?_); rintro e w' ⟨rfl, ⟨nd, rfl⟩⟩) | (go_at_call 19; (with_reducible refine (bits_With.calls t145 (Int.tmod (wrap64 (a2)) 500) t156 t157 _ A55.out).mono ?_); rintro e w58 ⟨rfl, hb⟩; have n0_ := Aside0.mk (below_step (by repeat (first | (with_reducible first | exact HB.out | apply below_alloc | apply pw_below_drewN | apply below_drew1) | exact HB.out)) hb); clear HB; have HB := n0_; clear n0_; (try clear hb); (try clear hb2); (try clear hk); (try clear hi)) | (go_at_call 12; (with_reducible refine (lighterlaw02_shown.calls k2  t158 _ A57.out).mono ?_); rintro e w59 ⟨rfl, hb⟩; have n0_ := Aside0.mk (below_step (by repeat (first | (with_reducible first | exact HB.out | apply below_alloc | apply pw_below_drewN | apply below_drew1) | exact HB.out)) hb); clear HB; have HB := n0_; clear n0_; (try clear hb); (try clear hb2); (try clear hk); (try clear hi)))
                      go_ret
                      exact ⟨by first | rfl | (simp [errW_none, errW_some] <;> rfl) | (simp [*, errW_none, errW_some] <;> rfl), by repeat (first | (with_reducible first | exact HB.out | apply below_alloc | apply pw_below_drewN | apply below_drew1) | exact HB.out)⟩
                    · rw [if_neg c56] at H
                      have c56b0 : (t157.toList == a1.toList) = false := beq_eq_false_iff_ne.mpr c56
                      have c56b1 : (t157.toList != a1.toList) = true := bne_iff_ne.mpr c56
                      obtain rfl := Option.some.inj H
                      go_wp2_with (first | ((with_reducible refine gate_callee (f := 23) rfl ?_); refine goesL_ (some 87) rfl rfl Try.func23 (by kernel_rfl) rfl #[.string t145] rfl (by (try simp only [List.map_toArray, List.map_cons, List.map_nil]); first | done | rfl | (simp only [List.length_drop, List.length_take]; rfl)) ?_; (with_reducible refine (bits_Count.calls k2 t145 t154 _ A51.out).mono ?_); rintro e w' ⟨rfl, ⟨nd, rfl⟩⟩; refine ⟨_, rfl, ?_⟩) | ((with_reducible refine gate_callee (f := 23) rfl ?_); refine goesL_ (some 89) rfl rfl Try.func23 (by kernel_rfl) rfl #[.string t146] rfl (by (try simp only [List.map_toArray, List.map_cons, List.map_nil]); first | done | rfl | (simp only [List.length_drop, List.length_take]; rfl)) ?_; (with_reducible refine (bits_Count.calls k2 t146 t155 _ A52.out).mono ?_); rintro e w' ⟨rfl, ⟨nd, rfl⟩⟩; refine ⟨_, rfl, ?_⟩) | (go_at_call 17; (with_reducible refine (bits_Has.calls a1 (Int.tmod (wrap64 (a2)) 500) t156 _ A54.out).mono ?_); rintro e w' ⟨rfl, ⟨nd, rfl⟩⟩) | (go_at_call 19; (with_reducible refine (bits_With.calls t145 (Int.tmod (wrap64 (a2)) 500) t156 t157 _ A55.out).mono ?_); rintro e w60 ⟨rfl, hb⟩; have n0_ := Aside0.mk (below_step (by repeat (first | (with_reducible first | exact HB.out | apply below_alloc | apply pw_below_drewN | apply below_drew1) | exact HB.out)) hb); clear HB; have HB := n0_; clear n0_; (try clear hb); (try clear hb2); (try clear hk); (try clear hi)))
                      go_ret
                      exact ⟨by first | rfl | (simp [errW_none, errW_some] <;> rfl) | (simp [*, errW_none, errW_some] <;> rfl), by repeat (first | (with_reducible first | exact HB.out | apply below_alloc | apply pw_below_drewN | apply below_drew1) | exact HB.out)⟩
                  · rw [if_neg c53] at H
                    have c53b0 : (t154 == (wrap64 (t155 + 1))) = false := beq_eq_false_iff_ne.mpr c53
                    have c53b1 : (t154 != (wrap64 (t155 + 1))) = true := bne_iff_ne.mpr c53
                    obtain rfl := Option.some.inj H
                    go_wp2_with (first | ((with_reducible refine gate_callee (f := 23) rfl ?_); refine goesL_ (some 87) rfl rfl Try.func23 (by kernel_rfl) rfl #[.string t145] rfl (by (try simp only [List.map_toArray, List.map_cons, List.map_nil]); first | done | rfl | (simp only [List.length_drop, List.length_take]; rfl)) ?_; (with_reducible refine (bits_Count.calls k2 t145 t154 _ A51.out).mono ?_); rintro e w' ⟨rfl, ⟨nd, rfl⟩⟩; refine ⟨_, rfl, ?_⟩) | ((with_reducible refine gate_callee (f := 23) rfl ?_); refine goesL_ (some 89) rfl rfl Try.func23 (by kernel_rfl) rfl #[.string t146] rfl (by (try simp only [List.map_toArray, List.map_cons, List.map_nil]); first | done | rfl | (simp only [List.length_drop, List.length_take]; rfl)) ?_; (with_reducible refine (bits_Count.calls k2 t146 t155 _ A52.out).mono ?_); rintro e w' ⟨rfl, ⟨nd, rfl⟩⟩; refine ⟨_, rfl, ?_⟩))
                    go_ret
                    exact ⟨by first | rfl | (simp [errW_none, errW_some] <;> rfl) | (simp [*, errW_none, errW_some] <;> rfl), by repeat (first | (with_reducible first | exact HB.out | apply below_alloc | apply pw_below_drewN | apply below_drew1) | exact HB.out)⟩

/-- THE ONE PURE STATEMENT of lighterlaw02_BitsBack: yours. -/
def lighterlaw02_BitsBack.Pure : Prop := ∀ (a0 : Int) (a1 : ByteArray) (a2 : Int), (Lit.int .u64 a0).wf = true → a1.size ≤ 140737488351232 → (Lit.int .u16 a2).wf = true → ∃ k, lighterlaw02_BitsBack.f k a0 a1 a2 = some true
theorem lighterlaw02_BitsBack.walk (P : lighterlaw02_BitsBack.Pure) (a0 : Int) (a1 : ByteArray) (a2 : Int) (w : World) (w0 : (Lit.int .u64 a0).wf = true) (w1 : a1.size ≤ 140737488351232) (w2 : (Lit.int .u16 a2).wf = true) :
    Calls Try.prog 5 #[.int .u64 a0, .string a1, .int .u16 a2] w fun e w' => e = .returned (.bool true) ∧ Below w.heap.size w w' := by
  obtain ⟨k, h⟩ := P a0 a1 a2 w0 w1 w2
  refine (lighterlaw02_BitsBack.calls k a0 a1 a2 true w h).mono ?_
  rintro e w' ⟨rfl, hd⟩
  exact ⟨rfl, hd⟩

end Go.Proofs.Ytidnkckfkgaooaa.Q
