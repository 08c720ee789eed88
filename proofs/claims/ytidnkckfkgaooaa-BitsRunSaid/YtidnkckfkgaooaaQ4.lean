/- The plain Lean functions of the given program's functions, and that the calls answer as they do. Written by a program of this session out of the translation. -/
import Derived.Test.YtidnkckfkgaooaaQ0
import Derived.Test.YtidnkckfkgaooaaQ1
namespace Go.Proofs.Ytidnkckfkgaooaa.Q
open Go.RowKit Go.Proofs.YtidnkckfkgaooaaW.PrintWords Go.Proofs.YtidnkckfkgaooaaW.PrintLast Go.Proofs.YtidnkckfkgaooaaW.PrintMore
attribute [local go_sem] max2_int min2_int max_two min_two max_three min_three max_four min_four   -- for this text's walks alone
set_option linter.unusedVariables false
set_option linter.unusedSimpArgs false

/-! ### lighterlaw02_BitsRun: function 6 -/
mutual
def lighterlaw02_BitsRun.j0 : Nat → ByteArray → Int → Int → Int → Bool → Option (Bool)
  | 0, _, _, _, _, _ => none
  | k + 1, x0, x7, x8, x9, x59 => if x59 = true then (some false) else (lighterlaw02_BitsRun.l0 k x0 x7 x8 x9 x0 x9)
def lighterlaw02_BitsRun.l0 : Nat → ByteArray → Int → Int → Int → ByteArray → Int → Option (Bool)
  | 0, _, _, _, _, _, _ => none
  | k + 1, x0, x7, x8, x9, x10, x11 => if x11 < (wrap64 (x9 + x8)) then ((bits_Has.f x0 x11).bind fun t164 => (if t164 = true then (some false) else ((bits_With.f x10 x11 true).bind fun t165 => (lighterlaw02_BitsRun.l0 k x0 x7 x8 x9 t165 (wrap64 (x11 + 1)))))) else ((bits_Run.f x10 x7 x8).bind fun t166 => (if t166 = (-1) then (if x9 = x7 then ((bits_Count.f k x10).bind fun t167 => ((bits_Count.f k x0).bind fun t168 => (if t167 = (wrap64 (t168 + x8)) then ((lighterlaw02_shown.f k).bind fun t169 => (some t169)) else (some false)))) else ((bits_Has.f x0 (wrap64 (x9 - 1))).bind fun t170 => (if t170 = true then ((bits_Count.f k x10).bind fun t171 => ((bits_Count.f k x0).bind fun t172 => (if t171 = (wrap64 (t172 + x8)) then ((lighterlaw02_shown.f k).bind fun t173 => (some t173)) else (some false)))) else (some false)))) else (if t166 ≥ (wrap64 (x9 + x8)) then (if x9 = x7 then ((bits_Count.f k x10).bind fun t174 => ((bits_Count.f k x0).bind fun t175 => (if t174 = (wrap64 (t175 + x8)) then ((lighterlaw02_shown.f k).bind fun t176 => (some t176)) else (some false)))) else ((bits_Has.f x0 (wrap64 (x9 - 1))).bind fun t177 => (if t177 = true then ((bits_Count.f k x10).bind fun t178 => ((bits_Count.f k x0).bind fun t179 => (if t178 = (wrap64 (t179 + x8)) then ((lighterlaw02_shown.f k).bind fun t180 => (some t180)) else (some false)))) else (some false)))) else (some false))))
end
def lighterlaw02_BitsRun.f (k : Nat) (a0 : ByteArray) (a1 : Int) (a2 : Int) : Option (Bool) := if (a0.size : Int) > 30 then ((lighterlaw02_shown.f k).bind fun t159 => (some t159)) else ((bits_Run.f a0 (wrap64 (a1)) (wrap64 (1 + (Int.tmod (wrap64 (a2)) 20)))).bind fun t160 => (if t160 < 0 then (if t160 = (-1) then (if (wrap64 (8 * (a0.size : Int))) < (wrap64 ((wrap64 (a1)) + (wrap64 (1 + (Int.tmod (wrap64 (a2)) 20))))) then ((lighterlaw02_shown.f k).bind fun t161 => (some t161)) else ((bits_Count.f k a0).bind fun t162 => (if t162 > 0 then ((lighterlaw02_shown.f k).bind fun t163 => (some t163)) else (some false)))) else (some false)) else (if t160 < (wrap64 (a1)) then (lighterlaw02_BitsRun.j0 k a0 (wrap64 (a1)) (wrap64 (1 + (Int.tmod (wrap64 (a2)) 20))) t160 true) else (lighterlaw02_BitsRun.j0 k a0 (wrap64 (a1)) (wrap64 (1 + (Int.tmod (wrap64 (a2)) 20))) t160 (decide ((wrap64 (t160 + (wrap64 (1 + (Int.tmod (wrap64 (a2)) 20))))) > (wrap64 (8 * (a0.size : Int)))))))))
theorem lighterlaw02_BitsRun.mono_l : ∀ k, (∀ y0 y1 y2 y3 y4, LeO (lighterlaw02_BitsRun.j0 k y0 y1 y2 y3 y4) (lighterlaw02_BitsRun.j0 (k + 1) y0 y1 y2 y3 y4)) ∧ (∀ y0 y1 y2 y3 y4 y5, LeO (lighterlaw02_BitsRun.l0 k y0 y1 y2 y3 y4 y5) (lighterlaw02_BitsRun.l0 (k + 1) y0 y1 y2 y3 y4 y5))
  | 0 => ⟨fun _ _ _ _ _ r h => by simp [lighterlaw02_BitsRun.j0] at h, fun _ _ _ _ _ _ r h => by simp [lighterlaw02_BitsRun.l0] at h⟩
  | k + 1 => by
    obtain ⟨ih0, ih1⟩ := lighterlaw02_BitsRun.mono_l k
    refine ⟨?_, ?_⟩
    · intro y0 y1 y2 y3 y4
      unfold lighterlaw02_BitsRun.j0
      repeat' first
      | (with_reducible exact ih0 _ _ _ _ _)
      | (with_reducible exact ih1 _ _ _ _ _ _)
      | (with_reducible exact bits_Count.mono _ _)
      | (with_reducible exact lighterlaw02_shown.mono _)
      | (with_reducible exact LeO.refl _)
      | (with_reducible exact LeO.none _)
      | (with_reducible refine LeO.ite ?_ ?_)
      | (with_reducible refine LeO.bind ?_ (fun _ => ?_))
      | exact ih0 _ _ _ _ _
      | exact ih1 _ _ _ _ _ _
      | exact bits_Count.mono _ _
      | exact lighterlaw02_shown.mono _
      | exact LeO.none _
      | refine LeO.ite ?_ ?_
      | refine LeO.bind ?_ (fun _ => ?_)
    · intro y0 y1 y2 y3 y4 y5
      unfold lighterlaw02_BitsRun.l0
      repeat' first
      | (with_reducible exact ih0 _ _ _ _ _)
      | (with_reducible exact ih1 _ _ _ _ _ _)
      | (with_reducible exact bits_Count.mono _ _)
      | (with_reducible exact lighterlaw02_shown.mono _)
      | (with_reducible exact LeO.refl _)
      | (with_reducible exact LeO.none _)
      | (with_reducible refine LeO.ite ?_ ?_)
      | (with_reducible refine LeO.bind ?_ (fun _ => ?_))
      | exact ih0 _ _ _ _ _
      | exact ih1 _ _ _ _ _ _
      | exact bits_Count.mono _ _
      | exact lighterlaw02_shown.mono _
      | exact LeO.none _
      | refine LeO.ite ?_ ?_
      | refine LeO.bind ?_ (fun _ => ?_)
theorem lighterlaw02_BitsRun.mono : ∀ a0 a1 a2 k, LeO (lighterlaw02_BitsRun.f k a0 a1 a2) (lighterlaw02_BitsRun.f (k + 1) a0 a1 a2) := by
  intro a0 a1 a2 k
  obtain ⟨ih0, ih1⟩ := lighterlaw02_BitsRun.mono_l k
  unfold lighterlaw02_BitsRun.f
  repeat' first
      | (with_reducible exact ih0 _ _ _ _ _)
      | (with_reducible exact ih1 _ _ _ _ _ _)
      | (with_reducible exact bits_Count.mono _ _)
      | (with_reducible exact lighterlaw02_shown.mono _)
      | (with_reducible exact LeO.refl _)
      | (with_reducible exact LeO.none _)
      | (with_reducible refine LeO.ite ?_ ?_)
      | (with_reducible refine LeO.bind ?_ (fun _ => ?_))
      | exact ih0 _ _ _ _ _
      | exact ih1 _ _ _ _ _ _
      | exact bits_Count.mono _ _
      | exact lighterlaw02_shown.mono _
      | exact LeO.none _
      | refine LeO.ite ?_ ?_
      | refine LeO.bind ?_ (fun _ => ?_)
set_option maxHeartbeats 8000000 in
set_option maxRecDepth 100000 in
theorem lighterlaw02_BitsRun.calls (k : Nat) (a0 : ByteArray) (a1 : Int) (a2 : Int) (r : Bool) (w : World) (h : lighterlaw02_BitsRun.f k a0 a1 a2 = some r) :
    Calls Try.prog 6 #[.string a0, .int .u8 a1, .int .u8 a2] w fun e w' => e = .returned (.bool r) ∧ Below w.heap.size w w' := by
  have HB := Aside0.mk (Below.refl w.heap.size w)
  have H : (if (a0.size : Int) > 30 then ((lighterlaw02_shown.f k).bind fun t159 => (some t159)) else ((bits_Run.f a0 (wrap64 (a1)) (wrap64 (1 + (Int.tmod (wrap64 (a2)) 20)))).bind fun t160 => (if t160 < 0 then (if t160 = (-1) then (if (wrap64 (8 * (a0.size : Int))) < (wrap64 ((wrap64 (a1)) + (wrap64 (1 + (Int.tmod (wrap64 (a2)) 20))))) then ((lighterlaw02_shown.f k).bind fun t161 => (some t161)) else ((bits_Count.f k a0).bind fun t162 => (if t162 > 0 then ((lighterlaw02_shown.f k).bind fun t163 => (some t163)) else (some false)))) else (some false)) else (if t160 < (wrap64 (a1)) then (lighterlaw02_BitsRun.j0 k a0 (wrap64 (a1)) (wrap64 (1 + (Int.tmod (wrap64 (a2)) 20))) t160 true) else (lighterlaw02_BitsRun.j0 k a0 (wrap64 (a1)) (wrap64 (1 + (Int.tmod (wrap64 (a2)) 20))) t160 (decide ((wrap64 (t160 + (wrap64 (1 + (Int.tmod (wrap64 (a2)) 20))))) > (wrap64 (8 * (a0.size : Int)))))))))) = some r := h
  clear h
  by_cases c4 : (a0.size : Int) > 30
  · rw [if_pos c4] at H
    have c4b0 : decide (30 < (a0.size : Int)) = true := decide_eq_true c4
    have c4b1 : decide (30 < a0.size) = true := decide_eq_true (by omega)
    clear c4
    replace H := Option.bind_eq_some_iff.mp H
    obtain ⟨t159, A50, H⟩ := H
    replace H : (some t159) = some r := H
    have A5 := Aside0.mk A50
    clear A50
    obtain rfl := Option.some.inj H
    go_enter Try.func6, Try.ntmps6
    go_wp2_with (first | ((with_reducible refine gate_callee (f := 12) rfl ?_); refine goesL_ (some 16) rfl rfl Try.func12 (by kernel_rfl) rfl #[] rfl (by (try simp only [List.map_toArray, List.map_cons, List.map_nil]); first | done | rfl | (simp only [List.length_drop, List.length_take]; rfl)) ?_; (with_reducible refine (lighterlaw02_shown.calls k  t159 _ A5.out).mono ?_); rintro e w6 ⟨rfl, hb⟩; refine ⟨_, rfl, ?_⟩; have n0_ := Aside0.mk (below_step (by repeat (first | (with_reducible first | exact HB.out | apply below_alloc | apply pw_below_drewN | apply below_drew1) | exact HB.out)) hb); clear HB; have HB := n0_; clear n0_; (try clear hb); (try clear hb2); (try clear hk); (try clear hi)))
    go_ret
    exact ⟨by first | rfl | (simp [errW_none, errW_some] <;> rfl) | (simp [*, errW_none, errW_some] <;> rfl), by repeat (first | (with_reducible first | exact HB.out | apply below_alloc | apply pw_below_drewN | apply below_drew1) | exact HB.out)⟩
  · rw [if_neg c4] at H
    have c4b0 : decide (30 < (a0.size : Int)) = false := decide_eq_false c4
    have c4b1 : decide (30 < a0.size) = false := decide_eq_false (by omega)
    clear c4
    replace H := Option.bind_eq_some_iff.mp H
    obtain ⟨t160, A70, H⟩ := H
    replace H : (if t160 < 0 then (if t160 = (-1) then (if (wrap64 (8 * (a0.size : Int))) < (wrap64 ((wrap64 (a1)) + (wrap64 (1 + (Int.tmod (wrap64 (a2)) 20))))) then ((lighterlaw02_shown.f k).bind fun t161 => (some t161)) else ((bits_Count.f k a0).bind fun t162 => (if t162 > 0 then ((lighterlaw02_shown.f k).bind fun t163 => (some t163)) else (some false)))) else (some false)) else (if t160 < (wrap64 (a1)) then (lighterlaw02_BitsRun.j0 k a0 (wrap64 (a1)) (wrap64 (1 + (Int.tmod (wrap64 (a2)) 20))) t160 true) else (lighterlaw02_BitsRun.j0 k a0 (wrap64 (a1)) (wrap64 (1 + (Int.tmod (wrap64 (a2)) 20))) t160 (decide ((wrap64 (t160 + (wrap64 (1 + (Int.tmod (wrap64 (a2)) 20))))) > (wrap64 (8 * (a0.size : Int)))))))) = some r := H
    have A7 := Aside0.mk A70
    clear A70
    by_cases c8 : t160 < 0
    · rw [if_pos c8] at H
      have c8b0 : decide (t160 < 0) = true := decide_eq_true c8
      clear c8
      by_cases c9 : t160 = (-1)
      · rw [if_pos c9] at H
        have c9b0 : (t160 == (-1)) = true := beq_iff_eq.mpr c9
        have c9b1 : (t160 != (-1)) = false := bne_eq_false_iff_eq.mpr c9
        clear c9
        by_cases c10 : (wrap64 (8 * (a0.size : Int))) < (wrap64 ((wrap64 (a1)) + (wrap64 (1 + (Int.tmod (wrap64 (a2)) 20)))))
        · rw [if_pos c10] at H
          have c10b0 : decide ((wrap64 (8 * (a0.size : Int))) < (wrap64 ((wrap64 (a1)) + (wrap64 (1 + (Int.tmod (wrap64 (a2)) 20)))))) = true := decide_eq_true c10
          clear c10
          replace H := Option.bind_eq_some_iff.mp H
          obtain ⟨t161, A110, H⟩ := H
          replace H : (some t161) = some r := H
          have A11 := Aside0.mk A110
          clear A110
          obtain rfl := Option.some.inj H
          go_enter Try.func6, Try.ntmps6
          go_wp2_with (first | ((with_reducible refine gate_callee (f := 21) rfl ?_); refine goesL_ (some 26) rfl rfl Try.func21 (by kernel_rfl) rfl #[.string a0, .int .i64 (wrap64 (a1)), .int .i64 (wrap64 (1 + (Int.tmod (wrap64 (a2)) 20)))] rfl (by (try simp only [List.map_toArray, List.map_cons, List.map_nil]); first | done | rfl | (simp only [List.length_drop, List.length_take]; rfl)) ?_; (with_reducible refine (bits_Run.calls a0 (wrap64 (a1)) (wrap64 (1 + (Int.tmod (wrap64 (a2)) 20))) t160 _ A7.out).mono ?_); rintro e w12 ⟨rfl, hb⟩; refine ⟨_, rfl, ?_⟩; have n0_ := Aside0.mk (below_step (by repeat (first | (with_reducible first | exact HB.out | apply below_alloc | apply pw_below_drewN | apply below_drew1) | exact HB.out)) hb); clear HB; have HB := n0_; clear n0_; (try clear hb); (try clear hb2); (try clear hk); (try clear hi)) | (go_at_call 12; (with_reducible refine (lighterlaw02_shown.calls k  t161 _ A11.out).mono ?_); rintro e w13 ⟨rfl, hb⟩; have n0_ := Aside0.mk (below_step (by repeat (first | (with_reducible first | exact HB.out | apply below_alloc | apply pw_below_drewN | apply below_drew1) | exact HB.out)) hb); clear HB; have HB := n0_; clear n0_; (try clear hb); (try clear hb2); (try clear hk); (try clear hi)))
          go_ret
          exact ⟨by first | rfl | (simp [errW_none, errW_some] <;> rfl) | (simp [*, errW_none, errW_some] <;> rfl), by repeat (first | (with_reducible first | exact HB.out | apply below_alloc | apply pw_below_drewN | apply below_drew1) | exact HB.out)⟩
        · rw [if_neg c10] at H
          have c10b0 : decide ((wrap64 (8 * (a0.size : Int))) < (wrap64 ((wrap64 (a1)) + (wrap64 (1 + (Int.tmod (wrap64 (a2)) 20)))))) = false := decide_eq_false c10
          clear c10
          replace H := Option.bind_eq_some_iff.mp H
          obtain ⟨t162, A140, H⟩ := H
          replace H : (if t162 > 0 then ((lighterlaw02_shown.f k).bind fun t163 => (some t163)) else (some false)) = some r := H
          have A14 := Aside0.mk A140
          clear A140
          by_cases c15 : t162 > 0
          · rw [if_pos c15] at H
            have c15b0 : decide (0 < t162) = true := decide_eq_true c15
            clear c15
            replace H := Option.bind_eq_some_iff.mp H
            obtain ⟨t163, A160, H⟩ := H
            replace H : (some t163) = some r := H
            have A16 := Aside0.mk A160
            clear A160
            obtain rfl := Option.some.inj H
            go_enter Try.func6, Try.ntmps6
            go_wp2_with (first | ((with_reducible refine gate_callee (f := 21) rfl ?_); refine goesL_ (some 26) rfl rfl Try.func21 (by kernel_rfl) rfl #[.string a0, .int .i64 (wrap64 (a1)), .int .i64 (wrap64 (1 + (Int.tmod (wrap64 (a2)) 20)))] rfl (by (try simp only [List.map_toArray, List.map_cons, List.map_nil]); first | done | rfl | (simp only [List.length_drop, List.length_take]; rfl)) ?_; (with_reducible refine (bits_Run.calls a0 (wrap64 (a1)) (wrap64 (1 + (Int.tmod (wrap64 (a2)) 20))) t160 _ A7.out).mono ?_); rintro e w17 ⟨rfl, hb⟩; refine ⟨_, rfl, ?_⟩; have n0_ := Aside0.mk (below_step (by repeat (first | (with_reducible first | exact HB.out | apply below_alloc | apply pw_below_drewN | apply below_drew1) | exact HB.out)) hb); clear HB; have HB := n0_; clear n0_; (try clear hb); (try clear hb2); (try clear hk); (try clear hi)) | (go_at_call 23; (with_reducible refine (bits_Count.calls k a0 t162 _ A14.out).mono ?_); rintro e w' ⟨rfl, ⟨nd, rfl⟩⟩) | (go_at_call 12; (with_reducible refine (lighterlaw02_shown.calls k  t163 _ A16.out).mono ?_); rintro e w18 ⟨rfl, hb⟩; have n0_ := Aside0.mk (below_step (by repeat (first | (with_reducible first | exact HB.out | apply below_alloc | apply pw_below_drewN | apply below_drew1) | exact HB.out)) hb); clear HB; have HB := n0_; clear n0_; (try clear hb); (try clear hb2); (try clear hk); (try clear hi)))
            go_ret
            exact ⟨by first | rfl | (simp [errW_none, errW_some] <;> rfl) | (simp [*, errW_none, errW_some] <;> rfl), by repeat (first | (with_reducible first | exact HB.out | apply below_alloc | apply pw_below_drewN | apply below_drew1) | exact HB.out)⟩
          · rw [if_neg c15] at H
            have c15b0 : decide (0 < t162) = false := decide_eq_false c15
            clear c15
            obtain rfl := Option.some.inj H
            go_enter Try.func6, Try.ntmps6
            go_wp2_with (first | ((with_reducible refine gate_callee (f := 21) rfl ?_); refine goesL_ (some 26) rfl rfl Try.func21 (by kernel_rfl) rfl #[.string a0, .int .i64 (wrap64 (a1)), .int .i64 (wrap64 (1 + (Int.tmod (wrap64 (a2)) 20)))] rfl (by (try simp only [List.map_toArray, List.map_cons, List.map_nil]); first | done | rfl | (simp only [List.length_drop, List.length_take]; rfl)) ?_; (with_reducible refine (bits_Run.calls a0 (wrap64 (a1)) (wrap64 (1 + (Int.tmod (wrap64 (a2)) 20))) t160 _ A7.out).mono ?_); rintro e w19 ⟨rfl, hb⟩; refine ⟨_, rfl, ?_⟩; have n0_ := Aside0.mk (below_step (by repeat (first | (with_reducible first | exact HB.out | apply below_alloc | apply pw_below_drewN | apply below_drew1) | exact HB.out)) hb); clear HB; have HB := n0_; clear n0_; (try clear hb); (try clear hb2); (try clear hk); (try clear hi)) | (go_at_call 23; (with_reducible refine (bits_Count.calls k a0 t162 _ A14.out).mono ?_); rintro e w' ⟨rfl, ⟨nd, rfl⟩⟩))
            go_ret
            exact ⟨by first | rfl | (simp [errW_none, errW_some] <;> rfl) | (simp [*, errW_none, errW_some] <;> rfl), by repeat (first | (with_reducible first | exact HB.out | apply below_alloc | apply pw_below_drewN | apply below_drew1) | exact HB.out)⟩
      · rw [if_neg c9] at H
        have c9b0 : (t160 == (-1)) = false := beq_eq_false_iff_ne.mpr c9
        have c9b1 : (t160 != (-1)) = true := bne_iff_ne.mpr c9
        obtain rfl := Option.some.inj H
        go_enter Try.func6, Try.ntmps6
        go_wp2_with (first | ((with_reducible refine gate_callee (f := 21) rfl ?_); refine goesL_ (some 26) rfl rfl Try.func21 (by kernel_rfl) rfl #[.string a0, .int .i64 (wrap64 (a1)), .int .i64 (wrap64 (1 + (Int.tmod (wrap64 (a2)) 20)))] rfl (by (try simp only [List.map_toArray, List.map_cons, List.map_nil]); first | done | rfl | (simp only [List.length_drop, List.length_take]; rfl)) ?_; (with_reducible refine (bits_Run.calls a0 (wrap64 (a1)) (wrap64 (1 + (Int.tmod (wrap64 (a2)) 20))) t160 _ A7.out).mono ?_); rintro e w20 ⟨rfl, hb⟩; refine ⟨_, rfl, ?_⟩; have n0_ := Aside0.mk (below_step (by repeat (first | (with_reducible first | exact HB.out | apply below_alloc | apply pw_below_drewN | apply below_drew1) | exact HB.out)) hb); clear HB; have HB := n0_; clear n0_; (try clear hb); (try clear hb2); (try clear hk); (try clear hi)))
        go_ret
        exact ⟨by first | rfl | (simp [errW_none, errW_some] <;> rfl) | (simp [*, errW_none, errW_some] <;> rfl), by repeat (first | (with_reducible first | exact HB.out | apply below_alloc | apply pw_below_drewN | apply below_drew1) | exact HB.out)⟩
    · rw [if_neg c8] at H
      have c8b0 : decide (t160 < 0) = false := decide_eq_false c8
      clear c8
      have HC21 := Aside0.mk H
      clear H
      go_enter Try.func6, Try.ntmps6
      go_upto_region 7 with (first | ((with_reducible refine gate_callee (f := 21) rfl ?_); refine goesL_ (some 26) rfl rfl Try.func21 (by kernel_rfl) rfl #[.string a0, .int .i64 (wrap64 (a1)), .int .i64 (wrap64 (1 + (Int.tmod (wrap64 (a2)) 20)))] rfl (by (try simp only [List.map_toArray, List.map_cons, List.map_nil]); first | done | rfl | (simp only [List.length_drop, List.length_take]; rfl)) ?_; (with_reducible refine (bits_Run.calls a0 (wrap64 (a1)) (wrap64 (1 + (Int.tmod (wrap64 (a2)) 20))) t160 _ A7.out).mono ?_); rintro e w22 ⟨rfl, hb⟩; refine ⟨_, rfl, ?_⟩; have n0_ := Aside0.mk (below_step (by repeat (first | (with_reducible first | exact HB.out | apply below_alloc | apply pw_below_drewN | apply below_drew1) | exact HB.out)) hb); clear HB; have HB := n0_; clear n0_; (try clear hb); (try clear hb2); (try clear hk); (try clear hi)))
      (try simp only [Act.put, List.setIfInBounds_toArray, List.set_cons_zero, List.set_cons_succ])
      go_cut [59] (fun v59 wc => ∃ (kq : Nat) (x59_20 : Bool), v59 = .bool x59_20 ∧ Aside0 (lighterlaw02_BitsRun.j0 kq a0 (wrap64 (a1)) (wrap64 (1 + (Int.tmod (wrap64 (a2)) 20))) t160 x59_20 = some r) ∧ Aside0 (kq ≤ k) ∧ Aside0 (Below w.heap.size w wc))
      case first =>
        have H := HC21.out
        clear HC21
        by_cases c23 : t160 < (wrap64 (a1))
        · rw [if_pos c23] at H
          have c23b0 : decide (t160 < (wrap64 (a1))) = true := decide_eq_true c23
          clear c23
          (first | rw [c23b0] | (simp only [i64_w, i32_w]; rw [c23b0]) | skip)
          have H' := Aside0.mk H
          clear H
          go_wp2
          go_meet
          case rel => exact ⟨_, (true), (by first | rfl | (simp; done) | (simp [*]; done)), H', ⟨by first | omega | exact Nat.le_refl _⟩, ⟨by repeat (first | (with_reducible first | exact HB.out | apply below_alloc | apply pw_below_drewN | apply below_drew1) | exact HB.out)⟩⟩
        · rw [if_neg c23] at H
          have c23b0 : decide (t160 < (wrap64 (a1))) = false := decide_eq_false c23
          clear c23
          (first | rw [c23b0] | (simp only [i64_w, i32_w]; rw [c23b0]) | skip)
          have H' := Aside0.mk H
          clear H
          go_wp2
          go_meet
          case rel => exact ⟨_, (decide ((wrap64 (t160 + (wrap64 (1 + (Int.tmod (wrap64 (a2)) 20))))) > (wrap64 (8 * (a0.size : Int))))), (by first | rfl | (simp; done) | (simp [*]; done)), H', ⟨by first | omega | exact Nat.le_refl _⟩, ⟨by repeat (first | (with_reducible first | exact HB.out | apply below_alloc | apply pw_below_drewN | apply below_drew1) | exact HB.out)⟩⟩
      case rest =>
        clear HC21
        try clear c1
        try clear c2
        try clear p2
        try clear c4
        try clear c4b0
        try clear c4b1
        try clear c6
        try clear p6
        try clear c8
        try clear c8b0
        try clear c9
        try clear c9b0
        try clear c9b1
        try clear c10
        try clear c10b0
        try clear c12
        try clear c15
        try clear c15b0
        try clear c21
        try clear c23
        try clear c23b0
        obtain ⟨kq, x59_20, rfl, HA, HJ20, HB⟩ := hcut
        cases kq with
        | zero => exact absurd HA.out (by simp [lighterlaw02_BitsRun.j0])
        | succ kj20 =>
          have H := HA.out
          clear HA
          simp only [lighterlaw02_BitsRun.j0] at H
          by_cases c24 : x59_20 = true
          · subst c24
            have H1 : (some false) = some r := by rw [if_pos rfl] at H; exact H
            clear H
            have H := H1
            clear H1
            obtain rfl := Option.some.inj H
            go_wp2
            go_ret
            exact ⟨by first | rfl | (simp [errW_none, errW_some] <;> rfl) | (simp [*, errW_none, errW_some] <;> rfl), by repeat (first | (with_reducible first | exact HB.out | apply below_alloc | apply pw_below_drewN | apply below_drew1) | exact HB.out)⟩
          · replace c24 := Bool.eq_false_iff.mpr c24
            subst c24
            have H1 : (lighterlaw02_BitsRun.l0 kj20 a0 (wrap64 (a1)) (wrap64 (1 + (Int.tmod (wrap64 (a2)) 20))) t160 a0 t160) = some r := by rw [if_neg (show ¬ (false = true) by decide)] at H; exact H
            clear H
            have H := H1
            clear H1
            have H' := Aside0.mk H
            clear H
            go_wp2
            go_loopg [10, 11] kj20 (fun kq v10 v11 w' => ∃ (x10_2 : ByteArray) (x11_2 : Int), v10 = .string x10_2 ∧ v11 = .int .i64 x11_2 ∧ Aside0 (lighterlaw02_BitsRun.l0 kq a0 (wrap64 (a1)) (wrap64 (1 + (Int.tmod (wrap64 (a2)) 20))) t160 x10_2 x11_2 = some r) ∧ Aside0 (kq ≤ kj20) ∧ Aside0 (Below w.heap.size w w'))
            case atStart => exact ⟨(a0), (t160), (by first | rfl | (simp; done) | (simp [*]; done)), (by first | rfl | (simp; done) | (simp [*]; done)), H', ⟨Nat.le_refl _⟩, ⟨by repeat (first | (with_reducible first | exact HB.out | apply below_alloc | apply pw_below_drewN | apply below_drew1) | exact HB.out)⟩⟩
            case round =>
              clear H'
              try clear c1
              try clear c2
              try clear p2
              try clear c4
              try clear c4b0
              try clear c4b1
              try clear c6
              try clear p6
              try clear c8
              try clear c8b0
              try clear c9
              try clear c9b0
              try clear c9b1
              try clear c10
              try clear c10b0
              try clear c12
              try clear c15
              try clear c15b0
              try clear c21
              try clear c23
              try clear c23b0
              try clear c24
              try clear p2
              try clear p6
              obtain ⟨x10_2, x11_2, rfl, rfl, HA, HK2, HB⟩ := hrel
              cases gk with
              | zero => exact absurd HA.out (by simp [lighterlaw02_BitsRun.l0])
              | succ k2 =>
                have H := HA.out
                clear HA
                simp only [lighterlaw02_BitsRun.l0] at H
                by_cases c25 : x11_2 < (wrap64 (t160 + (wrap64 (1 + (Int.tmod (wrap64 (a2)) 20)))))
                · rw [if_pos c25] at H
                  have c25b0 : decide (x11_2 < (wrap64 (t160 + (wrap64 (1 + (Int.tmod (wrap64 (a2)) 20)))))) = true := decide_eq_true c25
                  clear c25
                  replace H := Option.bind_eq_some_iff.mp H
                  obtain ⟨t164, A260, H⟩ := H
                  replace H : (if t164 = true then (some false) else ((bits_With.f x10_2 x11_2 true).bind fun t165 => (lighterlaw02_BitsRun.l0 k2 a0 (wrap64 (a1)) (wrap64 (1 + (Int.tmod (wrap64 (a2)) 20))) t160 t165 (wrap64 (x11_2 + 1))))) = some r := H
                  have A26 := Aside0.mk A260
                  clear A260
                  by_cases c27 : t164 = true
                  · subst c27
                    have H1 : (some false) = some r := by rw [if_pos rfl] at H; exact H
                    clear H
                    have H := H1
                    clear H1
                    obtain rfl := Option.some.inj H
                    go_wp2_with (first | ((with_reducible refine gate_callee (f := 17) rfl ?_); refine goesL_ (some 71) rfl rfl Try.func17 (by kernel_rfl) rfl #[.string a0, .int .i64 x11_2] rfl (by (try simp only [List.map_toArray, List.map_cons, List.map_nil]); first | done | rfl | (simp only [List.length_drop, List.length_take]; rfl)) ?_; (with_reducible refine (bits_Has.calls a0 x11_2 true _ A26.out).mono ?_); rintro e w' ⟨rfl, ⟨nd, rfl⟩⟩; refine ⟨_, rfl, ?_⟩))
                    go_ret
                    exact ⟨by first | rfl | (simp [errW_none, errW_some] <;> rfl) | (simp [*, errW_none, errW_some] <;> rfl), by repeat (first | (with_reducible first | exact HB.out | apply below_alloc | apply pw_below_drewN | apply below_drew1) | exact HB.out)⟩
                  · replace c27 := Bool.eq_false_iff.mpr c27
                    subst c27
                    have H1 : ((bits_With.f x10_2 x11_2 true).bind fun t165 => (lighterlaw02_BitsRun.l0 k2 a0 (wrap64 (a1)) (wrap64 (1 + (Int.tmod (wrap64 (a2)) 20))) t160 t165 (wrap64 (x11_2 + 1)))) = some r := by rw [if_neg (show ¬ (false = true) by decide)] at H; exact H
                    clear H
                    have H := H1
                    clear H1
                    replace H := Option.bind_eq_some_iff.mp H
                    obtain ⟨t165, A280, H⟩ := H
                    replace H : (lighterlaw02_BitsRun.l0 k2 a0 (wrap64 (a1)) (wrap64 (1 + (Int.tmod (wrap64 (a2)) 20))) t160 t165 (wrap64 (x11_2 + 1))) = some r := H
                    have A28 := Aside0.mk A280
                    clear A280
                    have H' := Aside0.mk H
                    clear H
                    go_wp2_with (first | ((with_reducible refine gate_callee (f := 17) rfl ?_); refine goesL_ (some 71) rfl rfl Try.func17 (by kernel_rfl) rfl #[.string a0, .int .i64 x11_2] rfl (by (try simp only [List.map_toArray, List.map_cons, List.map_nil]); first | done | rfl | (simp only [List.length_drop, List.length_take]; rfl)) ?_; (with_reducible refine (bits_Has.calls a0 x11_2 false _ A26.out).mono ?_); rintro e w' ⟨rfl, ⟨nd, rfl⟩⟩; refine ⟨_, rfl, ?_⟩) | ((with_reducible refine gate_callee (f := 19) rfl ?_); refine goesL_ (some 74) rfl rfl Try.func19 (by kernel_rfl) rfl #[.string x10_2, .int .i64 x11_2, .bool true] rfl (by (try simp only [List.map_toArray, List.map_cons, List.map_nil]); first | done | rfl | (simp only [List.length_drop, List.length_take]; rfl)) ?_; (with_reducible refine (bits_With.calls x10_2 x11_2 true t165 _ A28.out).mono ?_); rintro e w29 ⟨rfl, hb⟩; refine ⟨_, rfl, ?_⟩; have n0_ := Aside0.mk (below_step (by repeat (first | (with_reducible first | exact HB.out | apply below_alloc | apply pw_below_drewN | apply below_drew1) | exact HB.out)) hb); clear HB; have HB := n0_; clear n0_; (try clear hb); (try clear hb2); (try clear hk); (try clear hi)))
                    go_roundg k2
                    case measure => have := HJ20.out; have := HK2.out; omega
                    case rel => exact ⟨(t165), (wrap64 (x11_2 + 1)), (by first | rfl | (simp; done) | (simp [*]; done)), (by first | rfl | (simp; done) | (simp [*]; done)), H', ⟨by have := HJ20.out; have := HK2.out; omega⟩, ⟨by repeat (first | (with_reducible first | exact HB.out | apply below_alloc | apply pw_below_drewN | apply below_drew1) | exact HB.out)⟩⟩
                · rw [if_neg c25] at H
                  have c25b0 : decide (x11_2 < (wrap64 (t160 + (wrap64 (1 + (Int.tmod (wrap64 (a2)) 20)))))) = false := decide_eq_false c25
                  clear c25
                  replace H := Option.bind_eq_some_iff.mp H
                  obtain ⟨t166, A300, H⟩ := H
                  replace H : (if t166 = (-1) then (if t160 = (wrap64 (a1)) then ((bits_Count.f k2 x10_2).bind fun t167 => ((bits_Count.f k2 a0).bind fun t168 => (if t167 = (wrap64 (t168 + (wrap64 (1 + (Int.tmod (wrap64 (a2)) 20))))) then ((lighterlaw02_shown.f k2).bind fun t169 => (some t169)) else (some false)))) else ((bits_Has.f a0 (wrap64 (t160 - 1))).bind fun t170 => (if t170 = true then ((bits_Count.f k2 x10_2).bind fun t171 => ((bits_Count.f k2 a0).bind fun t172 => (if t171 = (wrap64 (t172 + (wrap64 (1 + (Int.tmod (wrap64 (a2)) 20))))) then ((lighterlaw02_shown.f k2).bind fun t173 => (some t173)) else (some false)))) else (some false)))) else (if t166 ≥ (wrap64 (t160 + (wrap64 (1 + (Int.tmod (wrap64 (a2)) 20))))) then (if t160 = (wrap64 (a1)) then ((bits_Count.f k2 x10_2).bind fun t174 => ((bits_Count.f k2 a0).bind fun t175 => (if t174 = (wrap64 (t175 + (wrap64 (1 + (Int.tmod (wrap64 (a2)) 20))))) then ((lighterlaw02_shown.f k2).bind fun t176 => (some t176)) else (some false)))) else ((bits_Has.f a0 (wrap64 (t160 - 1))).bind fun t177 => (if t177 = true then ((bits_Count.f k2 x10_2).bind fun t178 => ((bits_Count.f k2 a0).bind fun t179 => (if t178 = (wrap64 (t179 + (wrap64 (1 + (Int.tmod (wrap64 (a2)) 20))))) then ((lighterlaw02_shown.f k2).bind fun t180 => (some t180)) else (some false)))) else (some false)))) else (some false))) = some r := H
                  have A30 := Aside0.mk A300
                  clear A300
                  by_cases c31 : t166 = (-1)
                  · rw [if_pos c31] at H
                    have c31b0 : (t166 == (-1)) = true := beq_iff_eq.mpr c31
                    have c31b1 : (t166 != (-1)) = false := bne_eq_false_iff_eq.mpr c31
                    clear c31
                    by_cases c32 : t160 = (wrap64 (a1))
                    · rw [if_pos c32] at H
                      have c32b0 : (t160 == (wrap64 (a1))) = true := beq_iff_eq.mpr c32
                      have c32b1 : (t160 != (wrap64 (a1))) = false := bne_eq_false_iff_eq.mpr c32
                      clear c32
                      replace H := Option.bind_eq_some_iff.mp H
                      obtain ⟨t167, A330, H⟩ := H
                      replace H : ((bits_Count.f k2 a0).bind fun t168 => (if t167 = (wrap64 (t168 + (wrap64 (1 + (Int.tmod (wrap64 (a2)) 20))))) then ((lighterlaw02_shown.f k2).bind fun t169 => (some t169)) else (some false))) = some r := H
                      have A33 := Aside0.mk A330
                      clear A330
                      replace H := Option.bind_eq_some_iff.mp H
                      obtain ⟨t168, A340, H⟩ := H
                      replace H : (if t167 = (wrap64 (t168 + (wrap64 (1 + (Int.tmod (wrap64 (a2)) 20))))) then ((lighterlaw02_shown.f k2).bind fun t169 => (some t169)) else (some false)) = some r := H
                      have A34 := Aside0.mk A340
                      clear A340
                      by_cases c35 : t167 = (wrap64 (t168 + (wrap64 (1 + (Int.tmod (wrap64 (a2)) 20)))))
                      · rw [if_pos c35] at H
                        have c35b0 : (t167 == (wrap64 (t168 + (wrap64 (1 + (Int.tmod (wrap64 (a2)) 20)))))) = true := beq_iff_eq.mpr c35
                        have c35b1 : (t167 != (wrap64 (t168 + (wrap64 (1 + (Int.tmod (wrap64 (a2)) 20)))))) = false := bne_eq_false_iff_eq.mpr c35
                        clear c35
                        replace H := Option.bind_eq_some_iff.mp H
                        obtain ⟨t169, A360, H⟩ := H
                        replace H : (some t169) = some r := H
                        have A36 := Aside0.mk A360
                        clear A360
                        obtain rfl := Option.some.inj H
                        go_wp2_with (first | ((with_reducible refine gate_callee (f := 21) rfl ?_); refine goesL_ (some 78) rfl rfl Try.func21 (by kernel_rfl) rfl #[.string x10_2, .int .i64 (wrap64 (a1)), .int .i64 (wrap64 (1 + (Int.tmod (wrap64 (a2)) 20)))] rfl (by (try simp only [List.map_toArray, List.map_cons, List.map_nil]); first | done | rfl | (simp only [List.length_drop, List.length_take]; rfl)) ?_; (with_reducible refine (bits_Run.calls x10_2 (wrap64 (a1)) (wrap64 (1 + (Int.tmod (wrap64 (a2)) 20))) t166 _ A30.out).mono ?_); rintro e w37 ⟨rfl, hb⟩; refine ⟨_, rfl, ?_⟩; have n0_ := Aside0.mk (below_step (by repeat (first | (with_reducible first | exact HB.out | apply below_alloc | apply pw_below_drewN | apply below_drew1) | exact HB.out)) hb); clear HB; have HB := n0_; clear n0_; (try clear hb); (try clear hb2); (try clear hk); (try clear hi)) | (go_at_call 23; (with_reducible refine (bits_Count.calls k2 x10_2 t167 _ A33.out).mono ?_); rintro e w' ⟨rfl, ⟨nd, rfl⟩⟩) | (go_at_call 23; (with_reducible refine (bits_Count.calls k2 a0 t168 _ A34.out).mono ?_); rintro e w' ⟨rfl, ⟨nd, rfl⟩⟩) | (go_at_call 12; (with_reducible refine (lighterlaw02_shown.calls k2  t169 _ A36.out).mono ?_); rintro e w38 ⟨rfl, hb⟩; have n0_ := Aside0.mk (below_step (by repeat (first | (with_reducible first | exact HB.out | apply below_alloc | apply pw_below_drewN | apply below_drew1) | exact HB.out)) hb); clear HB; have HB := n0_; clear n0_; (try clear hb); (try clear hb2); (try clear hk); (try clear hi)))
                        go_ret
                        exact ⟨by first | rfl | (simp [errW_none, errW_some] <;> rfl) | (simp [*, errW_none, errW_some] <;> rfl), by repeat (first | (with_reducible first | exact HB.out | apply below_alloc | apply pw_below_drewN | apply below_drew1) | exact HB.out)⟩
                      · rw [if_neg c35] at H
                        have c35b0 : (t167 == (wrap64 (t168 + (wrap64 (1 + (Int.tmod (wrap64 (a2)) 20)))))) = false := beq_eq_false_iff_ne.mpr c35
                        have c35b1 : (t167 != (wrap64 (t168 + (wrap64 (1 + (Int.tmod (wrap64 (a2)) 20)))))) = true := bne_iff_ne.mpr c35
                        obtain rfl := Option.some.inj H
                        go_wp2_with (first | ((with_reducible refine gate_callee (f := 21) rfl ?_); refine goesL_ (some 78) rfl rfl Try.func21 (by kernel_rfl) rfl #[.string x10_2, .int .i64 (wrap64 (a1)), .int .i64 (wrap64 (1 + (Int.tmod (wrap64 (a2)) 20)))] rfl (by (try simp only [List.map_toArray, List.map_cons, List.map_nil]); first | done | rfl | (simp only [List.length_drop, List.length_take]; rfl)) ?_; (with_reducible refine (bits_Run.calls x10_2 (wrap64 (a1)) (wrap64 (1 + (Int.tmod (wrap64 (a2)) 20))) t166 _ A30.out).mono ?_); rintro e w39 ⟨rfl, hb⟩; refine ⟨_, rfl, ?_⟩; have n0_ := Aside0.mk (below_step (by repeat (first | (with_reducible first | exact HB.out | apply below_alloc | apply pw_below_drewN | apply below_drew1) | exact HB.out)) hb); clear HB; have HB := n0_; clear n0_; (try clear hb); (try clear hb2); (try clear hk); (try clear hi)) | (go_at_call 23; (with_reducible refine (bits_Count.calls k2 x10_2 t167 _ A33.out).mono ?_); rintro e w' ⟨rfl, ⟨nd, rfl⟩⟩) | (go_at_call 23; (with_reducible refine (bits_Count.calls k2 a0 t168 _ A34.out).mono ?_); rintro e w' ⟨rfl, ⟨nd, rfl⟩⟩))
                        go_ret
                        exact ⟨by first | rfl | (simp [errW_none, errW_some] <;> rfl) | (simp [*, errW_none, errW_some] <;> rfl), by repeat (first | (with_reducible first | exact HB.out | apply below_alloc | apply pw_below_drewN | apply below_drew1) | exact HB.out)⟩
                    · rw [if_neg c32] at H
                      have c32b0 : (t160 == (wrap64 (a1))) = false := beq_eq_false_iff_ne.mpr c32
                      have c32b1 : (t160 != (wrap64 (a1))) = true := bne_iff_ne.mpr c32
                      replace H := Option.bind_eq_some_iff.mp H
                      obtain ⟨t170, A400, H⟩ := H
                      replace H : (if t170 = true then ((bits_Count.f k2 x10_2).bind fun t171 => ((bits_Count.f k2 a0).bind fun t172 => (if t171 = (wrap64 (t172 + (wrap64 (1 + (Int.tmod (wrap64 (a2)) 20))))) then ((lighterlaw02_shown.f k2).bind fun t173 => (some t173)) else (some false)))) else (some false)) = some r := H
                      have A40 := Aside0.mk A400
                      clear A400
                      by_cases c41 : t170 = true
                      · subst c41
                        have H1 : ((bits_Count.f k2 x10_2).bind fun t171 => ((bits_Count.f k2 a0).bind fun t172 => (if t171 = (wrap64 (t172 + (wrap64 (1 + (Int.tmod (wrap64 (a2)) 20))))) then ((lighterlaw02_shown.f k2).bind fun t173 => (some t173)) else (some false)))) = some r := by rw [if_pos rfl] at H; exact H
                        clear H
                        have H := H1
                        clear H1
                        replace H := Option.bind_eq_some_iff.mp H
                        obtain ⟨t171, A420, H⟩ := H
                        replace H : ((bits_Count.f k2 a0).bind fun t172 => (if t171 = (wrap64 (t172 + (wrap64 (1 + (Int.tmod (wrap64 (a2)) 20))))) then ((lighterlaw02_shown.f k2).bind fun t173 => (some t173)) else (some false))) = some r := H
                        have A42 := Aside0.mk A420
                        clear A420
                        replace H := Option.bind_eq_some_iff.mp H
                        obtain ⟨t172, A430, H⟩ := H
                        replace H : (if t171 = (wrap64 (t172 + (wrap64 (1 + (Int.tmod (wrap64 (a2)) 20))))) then ((lighterlaw02_shown.f k2).bind fun t173 => (some t173)) else (some false)) = some r := H
                        have A43 := Aside0.mk A430
                        clear A430
                        by_cases c44 : t171 = (wrap64 (t172 + (wrap64 (1 + (Int.tmod (wrap64 (a2)) 20)))))
                        · rw [if_pos c44] at H
                          have c44b0 : (t171 == (wrap64 (t172 + (wrap64 (1 + (Int.tmod (wrap64 (a2)) 20)))))) = true := beq_iff_eq.mpr c44
                          have c44b1 : (t171 != (wrap64 (t172 + (wrap64 (1 + (Int.tmod (wrap64 (a2)) 20)))))) = false := bne_eq_false_iff_eq.mpr c44
                          clear c44
                          replace H := Option.bind_eq_some_iff.mp H
                          obtain ⟨t173, A450, H⟩ := H
                          replace H : (some t173) = some r := H
                          have A45 := Aside0.mk A450
                          clear A450
                          obtain rfl := Option.some.inj H
                          go_wp2_with (first | ((with_reducible refine gate_callee (f := 21) rfl ?_); refine goesL_ (some 78) rfl rfl Try.func21 (by kernel_rfl) rfl #[.string x10_2, .int .i64 (wrap64 (a1)), .int .i64 (wrap64 (1 + (Int.tmod (wrap64 (a2)) 20)))] rfl (by (try simp only [List.map_toArray, List.map_cons, List.map_nil]); first | done | rfl | (simp only [List.length_drop, List.length_take]; rfl)) ?_; (with_reducible refine (bits_Run.calls x10_2 (wrap64 (a1)) (wrap64 (1 + (Int.tmod (wrap64 (a2)) 20))) t166 _ A30.out).mono ?_); rintro e w46 ⟨rfl, hb⟩; refine ⟨_, rfl, ?_⟩; have n0_ := Aside0.mk (below_step (by repeat (first | (with_reducible first | exact HB.out | apply below_alloc | apply pw_below_drewN | apply below_drew1) | exact HB.out)) hb); clear HB; have HB := n0_; clear n0_; (try clear hb); (try clear hb2); (try clear hk); (try clear hi)) | (go_at_call 17; (with_reducible refine (bits_Has.calls a0 (wrap64 (t160 - 1)) true _ A40.out).mono ?_); rintro e w' ⟨rfl, ⟨nd, rfl⟩⟩) | (go_at_call 23; (with_reducible refine (bits_Count.calls k2 x10_2 t171 _ A42.out).mono ?_); rintro e w' ⟨rfl, ⟨nd, rfl⟩⟩) | (go_at_call 23; (with_reducible refine (bits_Count.calls k2 a0 t172 _ A43.out).mono ?_); rintro e w' ⟨rfl, ⟨nd, rfl⟩⟩) | (go_at_call 12; (with_reducible refine (lighterlaw02_shown.calls k2  t173 _ A45.out).mono ?_); rintro e w47 ⟨rfl, hb⟩; have n0_ := Aside0.mk (below_step (by repeat (first | (with_reducible first | exact HB.out | apply below_alloc | apply pw_below_drewN | apply below_drew1) | exact HB.out)) hb); clear HB; have HB := n0_; clear n0_; (try clear hb); (try clear hb2); (try clear hk); (try clear hi)))
                          go_ret
                          exact ⟨by first | rfl | (simp [errW_none, errW_some] <;> rfl) | (simp [*, errW_none, errW_some] <;> rfl), by repeat (first | (with_reducible first | exact HB.out | apply below_alloc | apply pw_below_drewN | apply below_drew1) | exact HB.out)⟩
                        · rw [if_neg c44] at H
                          have c44b0 : (t171 == (wrap64 (t172 + (wrap64 (1 + (Int.tmod (wrap64 (a2)) 20)))))) = false := beq_eq_false_iff_ne.mpr c44
                          have c44b1 : (t171 != (wrap64 (t172 + (wrap64 (1 + (Int.tmod (wrap64 (a2)) 20)))))) = true := bne_iff_ne.mpr c44
                          obtain rfl := Option.some.inj H
                          go_wp2_with (first | ((with_reducible refine gate_callee (f := 21) rfl ?_); refine goesL_ (some 78) rfl rfl Try.func21 (by kernel_rfl) rfl #[.string x10_2, .int .i64 (wrap64 (a1)), .int .i64 (wrap64 (1 + (Int.tmod (wrap64 (a2)) 20)))] rfl (by (try simp only [List.map_toArray, List.map_cons, List.map_nil]); first | done | rfl | (simp only [List.length_drop, List.length_take]; rfl)) ?_; (with_reducible refine (bits_Run.calls x10_2 (wrap64 (a1)) (wrap64 (1 + (Int.tmod (wrap64 (a2)) 20))) t166 _ A30.out).mono ?_); rintro e w48 ⟨rfl, hb⟩; refine ⟨_, rfl, ?_⟩; have n0_ := Aside0.mk (below_step (by repeat (first | (with_reducible first | exact HB.out | apply below_alloc | apply pw_below_drewN | apply below_drew1) | exact HB.out)) hb); clear HB; have HB := n0_; clear n0_; (try clear hb); (try clear hb2); (try clear hk); (try clear hi)) | (go_at_call 17; (with_reducible refine (bits_Has.calls a0 (wrap64 (t160 - 1)) true _ A40.out).mono ?_); rintro e w' ⟨rfl, ⟨nd, rfl⟩⟩) | (go_at_call 23; (with_reducible refine (bits_Count.calls k2 x10_2 t171 _ A42.out).mono ?_); rintro e w' ⟨rfl, ⟨nd, rfl⟩⟩) | (go_at_call 23; (with_reducible refine (bits_Count.calls k2 a0 t172 _ A43.out).mono ?_); rintro e w' ⟨rfl, ⟨nd, rfl⟩⟩))
                          go_ret
                          exact ⟨by first | rfl | (simp [errW_none, errW_some] <;> rfl) | (simp [*, errW_none, errW_some] <;> rfl), by repeat (first | (with_reducible first | exact HB.out | apply below_alloc | apply pw_below_drewN | apply below_drew1) | exact HB.out)⟩
                      · replace c41 := Bool.eq_false_iff.mpr c41
                        subst c41
                        have H1 : (some false) = some r := by rw [if_neg (show ¬ (false = true) by decide)] at H; exact H
                        clear H
                        have H := H1
                        clear H1
                        obtain rfl := Option.some.inj H
                        go_wp2_with (first | ((with_reducible refine gate_callee (f := 21) rfl ?_); refine goesL_ (some 78) rfl rfl Try.func21 (by kernel_rfl) rfl #[.string x10_2, .int .i64 (wrap64 (a1)), .int .i64 (wrap64 (1 + (Int.tmod (wrap64 (a2)) 20)))] rfl (by (try simp only [List.map_toArray, List.map_cons, List.map_nil]); first | done | rfl | (simp only [List.length_drop, List.length_take]; rfl)) ?_; (with_reducible refine (bits_Run.calls x10_2 (wrap64 (a1)) (wrap64 (1 + (Int.tmod (wrap64 (a2)) 20))) t166 _ A30.out).mono ?_); rintro e w49 ⟨rfl, hb⟩; refine ⟨_, rfl, ?_⟩; have n0_ := Aside0.mk (below_step (by repeat (first | (with_reducible first | exact HB.out | apply below_alloc | apply pw_below_drewN | apply below_drew1) | exact HB.out)) hb); clear HB; have HB := n0_; clear n0_; (try clear hb); (try clear hb2); (try clear hk); (try clear hi)) | (go_at_call 17; (with_reducible refine (bits_Has.calls a0 (wrap64 (t160 - 1)) false _ A40.out).mono ?_); rintro e w' ⟨rfl, ⟨nd, rfl⟩⟩))
                        go_ret
                        exact ⟨by first | rfl | (simp [errW_none, errW_some] <;> rfl) | (simp [*, errW_none, errW_some] <;> rfl), by repeat (first | (with_reducible first | exact HB.out | apply below_alloc | apply pw_below_drewN | apply below_drew1) | exact HB.out)⟩
                  · rw [if_neg c31] at H
                    have c31b0 : (t166 == (-1)) = false := beq_eq_false_iff_ne.mpr c31
                    have c31b1 : (t166 != (-1)) = true := bne_iff_ne.mpr c31
                    by_cases c50 : t166 ≥ (wrap64 (t160 + (wrap64 (1 + (Int.tmod (wrap64 (a2)) 20)))))
                    · rw [if_pos c50] at H
                      have c50b0 : decide ((wrap64 (t160 + (wrap64 (1 + (Int.tmod (wrap64 (a2)) 20))))) ≤ t166) = true := decide_eq_true c50
                      clear c50
                      by_cases c51 : t160 = (wrap64 (a1))
                      · rw [if_pos c51] at H
                        have c51b0 : (t160 == (wrap64 (a1))) = true := beq_iff_eq.mpr c51
                        have c51b1 : (t160 != (wrap64 (a1))) = false := bne_eq_false_iff_eq.mpr c51
                        clear c51
                        replace H := Option.bind_eq_some_iff.mp H
                        obtain ⟨t174, A520, H⟩ := H
                        replace H : ((bits_Count.f k2 a0).bind fun t175 => (if t174 = (wrap64 (t175 + (wrap64 (1 + (Int.tmod (wrap64 (a2)) 20))))) then ((lighterlaw02_shown.f k2).bind fun t176 => (some t176)) else (some false))) = some r := H
                        have A52 := Aside0.mk A520
                        clear A520
                        replace H := Option.bind_eq_some_iff.mp H
                        obtain ⟨t175, A530, H⟩ := H
                        replace H : (if t174 = (wrap64 (t175 + (wrap64 (1 + (Int.tmod (wrap64 (a2)) 20))))) then ((lighterlaw02_shown.f k2).bind fun t176 => (some t176)) else (some false)) = some r := H
                        have A53 := Aside0.mk A530
                        clear A530
                        by_cases c54 : t174 = (wrap64 (t175 + (wrap64 (1 + (Int.tmod (wrap64 (a2)) 20)))))
                        · rw [if_pos c54] at H
                          have c54b0 : (t174 == (wrap64 (t175 + (wrap64 (1 + (Int.tmod (wrap64 (a2)) 20)))))) = true := beq_iff_eq.mpr c54
                          have c54b1 : (t174 != (wrap64 (t175 + (wrap64 (1 + (Int.tmod (wrap64 (a2)) 20)))))) = false := bne_eq_false_iff_eq.mpr c54
                          clear c54
                          replace H := Option.bind_eq_some_iff.mp H
                          obtain ⟨t176, A550, H⟩ := H
                          replace H : (some t176) = some r := H
                          have A55 := Aside0.mk A550
                          clear A550
                          obtain rfl := Option.some.inj H
                          go_wp2_with (first | ((with_reducible refine gate_callee (f := 21) rfl ?_); refine goesL_ (some 78) rfl rfl Try.func21 (by kernel_rfl) rfl #[.string x10_2, .int .i64 (wrap64 (a1)), .int .i64 (wrap64 (1 + (Int.tmod (wrap64 (a2)) 20)))] rfl (by (try simp only [List.map_toArray, List.map_cons, List.map_nil]); first | done | rfl | (simp only [List.length_drop, List.length_take]; rfl)) ?_; (with_reducible refine (bits_Run.calls x10_2 (wrap64 (a1)) (wrap64 (1 + (Int.tmod (wrap64 (a2)) 20))) t166 _ A30.out).mono ?_); rintro e w56 ⟨rfl, hb⟩; refine ⟨_, rfl, ?_⟩; have n0_ := Aside0.mk (below_step (by repeat (first | (with_reducible first | exact HB.out | apply below_alloc | apply pw_below_drewN | apply below_drew1) | exact HB.out)) hb); clear HB; have HB := n0_; clear n0_; (try clear hb); (try clear hb2); (try clear hk); (try clear hi)) | (go_at_call 23; (with_reducible refine (bits_Count.calls k2 x10_2 t174 _ A52.out).mono ?_); rintro e w' ⟨rfl, ⟨nd, rfl⟩⟩) | (go_at_call 23; (with_reducible refine (bits_Count.calls k2 a0 t175 _ A53.out).mono ?_); rintro e w' ⟨rfl, ⟨nd, rfl⟩⟩) | (go_at_call 12; (with_reducible refine (lighterlaw02_shown.calls k2  t176 _ A55.out).mono ?_); rintro e w57 ⟨rfl, hb⟩; have n0_ := Aside0.mk (below_step (by repeat (first | (with_reducible first | exact HB.out | apply below_alloc | apply pw_below_drewN | apply below_drew1) | exact HB.out)) hb); clear HB; have HB := n0_; clear n0_; (try clear hb); (try clear hb2); (try clear hk); (try clear hi)))
                          go_ret
                          exact ⟨by first | rfl | (simp [errW_none, errW_some] <;> rfl) | (simp [*, errW_none, errW_some] <;> rfl), by repeat (first | (with_reducible first | exact HB.out | apply below_alloc | apply pw_below_drewN | apply below_drew1) | exact HB.out)⟩
                        · rw [if_neg c54] at H
                          have c54b0 : (t174 == (wrap64 (t175 + (wrap64 (1 + (Int.tmod (wrap64 (a2)) 20)))))) = false := beq_eq_false_iff_ne.mpr c54
                          have c54b1 : (t174 != (wrap64 (t175 + (wrap64 (1 + (Int.tmod (wrap64 (a2)) 20)))))) = true := bne_iff_ne.mpr c54
                          obtain rfl := Option.some.inj H
                          go_wp2_with (first | ((with_reducible refine gate_callee (f := 21) rfl ?_); refine goesL_ (some 78) rfl rfl Try.func21 (by kernel_rfl) rfl #[.string x10_2, .int .i64 (wrap64 (a1)), .int .i64 (wrap64 (1 + (Int.tmod (wrap64 (a2)) 20)))] rfl (by (try simp only [List.map_toArray, List.map_cons, List.map_nil]); first | done | rfl | (simp only [List.length_drop, List.length_take]; rfl)) ?_; (with_reducible refine (bits_Run.calls x10_2 (wrap64 (a1)) (wrap64 (1 + (Int.tmod (wrap64 (a2)) 20))) t166 _ A30.out).mono ?_); rintro e w58 ⟨rfl, hb⟩; refine ⟨_, rfl, ?_⟩; have n0_ := Aside0.mk (below_step (by repeat (first | (with_reducible first | exact HB.out | apply below_alloc | apply pw_below_drewN | apply below_drew1) | exact HB.out)) hb); clear HB; have HB := n0_; clear n0_; (try clear hb); (try clear hb2); (try clear hk); (try clear hi)) | (go_at_call 23; (with_reducible refine (bits_Count.calls k2 x10_2 t174 _ A52.out).mono ?_); rintro e w' ⟨rfl, ⟨nd, rfl⟩⟩) | (go_at_call 23; (with_reducible refine (bits_Count.calls k2 a0 t175 _ A53.out).mono ?_); rintro e w' ⟨rfl, ⟨nd, rfl⟩⟩))
                          go_ret
                          exact ⟨by first | rfl | (simp [errW_none, errW_some] <;> rfl) | (simp [*, errW_none, errW_some] <;> rfl), by repeat (first | (with_reducible first | exact HB.out | apply below_alloc | apply pw_below_drewN | apply below_drew1) | exact HB.out)⟩
                      · rw [if_neg c51] at H
                        have c51b0 : (t160 == (wrap64 (a1))) = false := beq_eq_false_iff_ne.mpr c51
                        have c51b1 : (t160 != (wrap64 (a1))) = true := bne_iff_ne.mpr c51
                        replace H := Option.bind_eq_some_iff.mp H
                        obtain ⟨t177, A590, H⟩ := H
                        replace H : (if t177 = true then ((bits_Count.f k2 x10_2).bind fun t178 => ((bits_Count.f k2 a0).bind fun t179 => (if t178 = (wrap64 (t179 + (wrap64 (1 + (Int.tmod (wrap64 (a2)) 20))))) then ((lighterlaw02_shown.f k2).bind fun t180 => (some t180)) else (some false)))) else (some false)) = some r := H
                        have A59 := Aside0.mk A590
                        clear A590
                        by_cases c60 : t177 = true
                        · subst c60
                          have H1 : ((bits_Count.f k2 x10_2).bind fun t178 => ((bits_Count.f k2 a0).bind fun t179 => (if t178 = (wrap64 (t179 + (wrap64 (1 + (Int.tmod (wrap64 (a2)) 20))))) then ((lighterlaw02_shown.f k2).bind fun t180 => (some t180)) else (some false)))) = some r := by rw [if_pos rfl] at H; exact H
                          clear H
                          have H := H1
                          clear H1
                          replace H := Option.bind_eq_some_iff.mp H
                          obtain ⟨t178, A610, H⟩ := H
                          replace H : ((bits_Count.f k2 a0).bind fun t179 => (if t178 = (wrap64 (t179 + (wrap64 (1 + (Int.tmod (wrap64 (a2)) 20))))) then ((lighterlaw02_shown.f k2).bind fun t180 => (some t180)) else (some false))) = some r := H
                          have A61 := Aside0.mk A610
                          clear A610
                          replace H := Option.bind_eq_some_iff.mp H
                          obtain ⟨t179, A620, H⟩ := H
                          replace H : (if t178 = (wrap64 (t179 + (wrap64 (1 + (Int.tmod (wrap64 (a2)) 20))))) then ((lighterlaw02_shown.f k2).bind fun t180 => (some t180)) else (some false)) = some r := H
                          have A62 := Aside0.mk A620
                          clear A620
                          by_cases c63 : t178 = (wrap64 (t179 + (wrap64 (1 + (Int.tmod (wrap64 (a2)) 20)))))
                          · rw [if_pos c63] at H
                            have c63b0 : (t178 == (wrap64 (t179 + (wrap64 (1 + (Int.tmod (wrap64 (a2)) 20)))))) = true := beq_iff_eq.mpr c63
                            have c63b1 : (t178 != (wrap64 (t179 + (wrap64 (1 + (Int.tmod (wrap64 (a2)) 20)))))) = false := bne_eq_false_iff_eq.mpr c63
                            clear c63
                            replace H := Option.bind_eq_some_iff.mp H
                            obtain ⟨t180, A640, H⟩ := H
                            replace H : (some t180) = some r := H
                            have A64 := Aside0.mk A640
                            clear A640
                            obtain rfl := Option.some.inj H
                            go_wp2_with (first | ((with_reducible refine gate_callee (f := 21) rfl ?_); refine goesL_ (some 78) rfl rfl Try.func21 (by kernel_rfl) rfl #[.string x10_2, .int .i64 (wrap64 (a1)), .int .i64 (wrap64 (1 + (Int.tmod (wrap64 (a2)) 20)))] rfl (by (try simp only [List.map_toArray, List.map_cons, List.map_nil]); first | done | rfl | (simp only [List.length_drop, List.length_take]; rfl)) ?_; (with_reducible refine (bits_Run.calls x10_2 (wrap64 (a1)) (wrap64 (1 + (Int.tmod (wrap64 (a2)) 20))) t166 _ A30.out).mono ?_); rintro e w65 ⟨rfl, hb⟩; refine ⟨_, rfl, ?_⟩; have n0_ := Aside0.mk (below_step (by repeat (first | (with_reducible first | exact HB.out | apply below_alloc | apply pw_below_drewN | apply below_drew1) | exact HB.out)) hb); clear HB; have HB := n0_; clear n0_; (try clear hb); (try clear hb2); (try clear hk); (try clear hi)) | (go_at_call 17; (with_reducible refine (bits_Has.calls a0 (wrap64 (t160 - 1)) true _ A59.out).mono ?_); rintro e w' ⟨rfl, ⟨nd, rfl⟩⟩) | (go_at_call 23; (with_reducible refine (bits_Count.calls k2 x10_2 t178 _ A61.out).mono ?_); rintro e w' ⟨rfl, ⟨nd, rfl⟩⟩) | (go_at_call 23; (with_reducible refine (bits_Count.calls k2 a0 t179 _ A62.out).mono ?_); rintro e w' ⟨rfl, ⟨nd, rfl⟩⟩) | (go_at_call 12; (with_reducible refine (lighterlaw02_shown.calls k2  t180 _ A64.out).mono ?_); rintro e w66 ⟨rfl, hb⟩; have n0_ := Aside0.mk (below_step (by repeat (first | (with_reducible first | exact HB.out | apply below_alloc | apply pw_below_drewN | apply below_drew1) | exact HB.out)) hb); clear HB; have HB := n0_; clear n0_; (try clear hb); (try clear hb2); (try clear hk); (try clear hi)))
                            go_ret
                            exact ⟨by first | rfl | (simp [errW_none, errW_some] <;> rfl) | (simp [*, errW_none, errW_some] <;> rfl), by repeat (first | (with_reducible first | exact HB.out | apply below_alloc | apply pw_below_drewN | apply below_drew1) | exact HB.out)⟩
                          · rw [if_neg c63] at H
                            have c63b0 : (t178 == (wrap64 (t179 + (wrap64 (1 + (Int.tmod (wrap64 (a2)) 20)))))) = false := beq_eq_false_iff_ne.mpr c63
                            have c63b1 : (t178 != (wrap64 (t179 + (wrap64 (1 + (Int.tmod (wrap64 (a2)) 20)))))) = true := bne_iff_ne.mpr c63
                            obtain rfl := Option.some.inj H
                            go_wp2_with (first | ((with_reducible refine gate_callee (f := 21) rfl ?_); refine goesL_ (some 78) rfl rfl Try.func21 (by kernel_rfl) rfl #[.string x10_2, .int .i64 (wrap64 (a1)), .int .i64 (wrap64 (1 + (Int.tmod (wrap64 (a2)) 20)))] rfl (by (try simp only [List.map_toArray, List.map_cons, List.map_nil]); first | done | rfl | (simp only [List.length_drop, List.length_take]; rfl)) ?_; (with_reducible refine (bits_Run.calls x10_2 (wrap64 (a1)) (wrap64 (1 + (Int.tmod (wrap64 (a2)) 20))) t166 _ A30.out).mono ?_); rintro e w67 ⟨rfl, hb⟩; refine ⟨_, rfl, ?_⟩; have n0_ := Aside0.mk (below_step (by repeat (first | (with_reducible first | exact HB.out | apply below_alloc | apply pw_below_drewN | apply below_drew1) | exact HB.out)) hb); clear HB; have HB := n0_; clear n0_; (try clear hb); (try clear hb2); (try clear hk); (try clear hi)) | (go_at_call 17; (with_reducible refine (bits_Has.calls a0 (wrap64 (t160 - 1)) true _ A59.out).mono ?_); rintro e w' ⟨rfl, ⟨nd, rfl⟩⟩) | (go_at_call 23; (with_reducible refine (bits_Count.calls k2 x10_2 t178 _ A61.out).mono ?_); rintro e w' ⟨rfl, ⟨nd, rfl⟩⟩) | (go_at_call 23; (with_reducible refine (bits_Count.calls k2 a0 t179 _ A62.out).mono ?_); rintro e w' ⟨rfl, ⟨nd, rfl⟩⟩))
                            go_ret
                            exact ⟨by first | rfl | (simp [errW_none, errW_some] <;> rfl) | (simp [*, errW_none, errW_some] <;> rfl), by repeat (first | (with_reducible first | exact HB.out | apply below_alloc | apply pw_below_drewN | apply below_drew1) | exact HB.out)⟩
                        · replace c60 := Bool.eq_false_iff.mpr c60
                          subst c60
                          have H1 : (some false) = some r := by rw [if_neg (show ¬ (false = true) by decide)] at H; exact H
                          clear H
                          have H := H1
                          clear H1
                          obtain rfl := Option.some.inj H
                          go_wp2_with (first | ((with_reducible refine gate_callee (f := 21) rfl ?_); refine goesL_ (some 78) rfl rfl Try.func21 (by kernel_rfl) rfl #[.string x10_2, .int .i64 (wrap64 (a1)), .int .i64 (wrap64 (1 + (Int.tmod (wrap64 (a2)) 20)))] rfl (by (try simp only [List.map_toArray, List.map_cons, List.map_nil]); first | done | rfl | (simp only [List.length_drop, List.length_take]; rfl)) ?_; (with_reducible refine (bits_Run.calls x10_2 (wrap64 (a1)) (wrap64 (1 + (Int.tmod (wrap64 (a2)) 20))) t166 _ A30.out).mono ?_); rintro e w68 ⟨rfl, hb⟩; refine ⟨_, rfl, ?_⟩; have n0_ := Aside0.mk (below_step (by repeat (first | (with_reducible first | exact HB.out | apply below_alloc | apply pw_below_drewN | apply below_drew1) | exact HB.out)) hb); clear HB; have HB := n0_; clear n0_; (try clear hb); (try clear hb2); (try clear hk); (try clear hi)) | (go_at_call 17; (with_reducible refine (bits_Has.calls a0 (wrap64 (t160 - 1)) false _ A59.out).mono ?_); rintro e w' ⟨rfl, ⟨nd, rfl⟩⟩))
                          go_ret
                          exact ⟨by first | rfl | (simp [errW_none, errW_some] <;> rfl) | (simp [*, errW_none, errW_some] <;> rfl), by repeat (first | (with_reducible first | exact HB.out | apply below_alloc | apply pw_below_drewN | apply below_drew1) | exact HB.out)⟩
                    · rw [if_neg c50] at H
                      have c50b0 : decide ((wrap64 (t160 + (wrap64 (1 + (Int.tmod (wrap64 (a2)) 20))))) ≤ t166) = false := decide_eq_false c50
                      clear c50
                      obtain rfl := Option.some.inj H
                      go_wp2_with (first | ((with_reducible refine gate_callee (f := 21) rfl ?_); refine goesL_ (some 78) rfl rfl Try.func21 (by kernel_rfl) rfl #[.string x10_2, .int .i64 (wrap64 (a1)), .int .i64 (wrap64 (1 + (Int.tmod (wrap64 (a2)) 20)))] rfl (by (try simp only [List.map_toArray, List.map_cons, List.map_nil]); first | done | rfl | (simp only [List.length_drop, List.length_take]; rfl)) ?_; (with_reducible refine (bits_Run.calls x10_2 (wrap64 (a1)) (wrap64 (1 + (Int.tmod (wrap64 (a2)) 20))) t166 _ A30.out).mono ?_); rintro e w69 ⟨rfl, hb⟩; refine ⟨_, rfl, ?_⟩; have n0_ := Aside0.mk (below_step (by repeat (first | (with_reducible first | exact HB.out | apply below_alloc | apply pw_below_drewN | apply below_drew1) | exact HB.out)) hb); clear HB; have HB := n0_; clear n0_; (try clear hb); (try clear hb2); (try clear hk); (try clear hi)))
                      go_ret
                      exact ⟨by first | rfl | (simp [errW_none, errW_some] <;> rfl) | (simp [*, errW_none, errW_some] <;> rfl), by repeat (first | (with_reducible first | exact HB.out | apply below_alloc | apply pw_below_drewN | apply below_drew1) | exact HB.out)⟩

/-- THE ONE PURE STATEMENT of lighterlaw02_BitsRun: yours. -/
def lighterlaw02_BitsRun.Pure : Prop := ∀ (a0 : ByteArray) (a1 : Int) (a2 : Int), a0.size ≤ 140737488351232 → (Lit.int .u8 a1).wf = true → (Lit.int .u8 a2).wf = true → ∃ k, lighterlaw02_BitsRun.f k a0 a1 a2 = some true
theorem lighterlaw02_BitsRun.walk (P : lighterlaw02_BitsRun.Pure) (a0 : ByteArray) (a1 : Int) (a2 : Int) (w : World) (w0 : a0.size ≤ 140737488351232) (w1 : (Lit.int .u8 a1).wf = true) (w2 : (Lit.int .u8 a2).wf = true) :
    Calls Try.prog 6 #[.string a0, .int .u8 a1, .int .u8 a2] w fun e w' => e = .returned (.bool true) ∧ Below w.heap.size w w' := by
  obtain ⟨k, h⟩ := P a0 a1 a2 w0 w1 w2
  refine (lighterlaw02_BitsRun.calls k a0 a1 a2 true w h).mono ?_
  rintro e w' ⟨rfl, hd⟩
  exact ⟨rfl, hd⟩

end Go.Proofs.Ytidnkckfkgaooaa.Q
