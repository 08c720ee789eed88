/- A rune in the digits; the number of a digit, by the reference. -/
import Derived.Test.YtegjphfkkafomaaDg1
namespace Go.Proofs.Ytegjphfkkafomaa.Dg
open Go.RowKit Go.Proofs Go.Proofs.YtegjphfkkafomaaW.PrintWords Go.Proofs.YtegjphfkkafomaaW.PrintLast Go.Proofs.YtegjphfkkafomaaW.PrintMore

/-- Which digit a byte is; below 0: none. -/
def hv (c : UInt8) : Int := Lib.indexByte hexS.data.toList c
theorem hv_all : ∀ n : Fin 256, (-1 ≤ hv (UInt8.ofNat n.val) ∧ hv (UInt8.ofNat n.val) < 16) ∧ (0 ≤ hv (UInt8.ofNat n.val) → hx (hv (UInt8.ofNat n.val)).toNat = UInt8.ofNat n.val) ∧ (128 ≤ n.val → hv (UInt8.ofNat n.val) = -1) := by decide +kernel
theorem hv_hx : ∀ n : Fin 16, hv (hx n.val) = (n.val : Int) := by decide +kernel
theorem hv_at (c : UInt8) : (-1 ≤ hv c ∧ hv c < 16) ∧ (0 ≤ hv c → hx (hv c).toNat = c) ∧ (128 ≤ c.toNat → hv c = -1) := by
  have h := hv_all ⟨c.toNat, UInt8.toNat_lt c⟩
  simpa using h
theorem hv_range (c : UInt8) : -1 ≤ hv c ∧ hv c < 16 := (hv_at c).1
theorem hx_hv (c : UInt8) (h : 0 ≤ hv c) : hx (hv c).toNat = c := (hv_at c).2.1 h
theorem hv_high (c : UInt8) (h : 128 ≤ c.toNat) : hv c = -1 := (hv_at c).2.2 h
theorem hv_of_hx (n : Nat) (h : n < 16) : hv (hx n) = (n : Int) := hv_hx ⟨n, h⟩
theorem rest_high (k : Nat) (hk : k ≤ 4) (c : UInt8) (h : 128 ≤ c.toNat) : Lib.indexByte (hexS.extract k 16).data.toList c = -1 := by
  have all : ∀ k : Fin 5, ∀ n : Fin 256, 128 ≤ n.val → Lib.indexByte (hexS.extract k.val 16).data.toList (UInt8.ofNat n.val) = -1 := by decide +kernel
  have := all ⟨k, by omega⟩ ⟨c.toNat, UInt8.toNat_lt c⟩ h
  simpa using this
set_option maxHeartbeats 1000000 in
set_option maxRecDepth 100000 in
theorem rune_low (r : Nat) (w : World) (h : r < 128) : Calls Try.prog 16 #[.string hexS, .int .i32 (r : Int)] w fun e w' => e = .returned (.int .i64 (hv r.toUInt8)) ∧ w' = w := by
  have h1 : (0 : Int) ≤ (r : Int) := by omega
  have h2 : (r : Int) < 128 := by omega
  have h3 : (r : Int) % 256 = (r : Int) := by omega
  have HI := Lib.hid (show ∀ w, Calls Try.prog 22 #[.string hexS, .int .u8 (r : Int)] w fun e w' => e = .returned (.int .i64 (hv r.toUInt8)) ∧ w' = w from fun w => by
    have := indexByte_calls hexS (r : Int) w
    rwa [Int.toNat_natCast] at this)
  go_enter Try.func16, Try.ntmps16
  go_wp2_with (go_at_call 22; refine (HI.out _).mono ?_; rintro e w' ⟨rfl, rfl⟩)
  go_ret
  exact ⟨rfl, rfl⟩
set_option maxHeartbeats 1000000 in
set_option maxRecDepth 100000 in
theorem rune_invalid (r : Int) (w : World) (h : 128 ≤ r) (hv : Utf8.valid r = false) : Calls Try.prog 16 #[.string hexS, .int .i32 r] w fun e w' => e = .returned (.int .i64 (-1)) ∧ w' = w := by
  have h1 : (0 : Int) ≤ r := by omega
  have h2 : ¬ r < 128 := by omega
  have h3 : ¬ r = 65533 := by
    rintro rfl
    revert hv
    decide
  have h4 : (r == 65533) = false := beq_eq_false_iff_ne.mpr h3
  have HI := Lib.hid (show ∀ w, Calls Try.prog 23 #[.int .i32 r] w fun e w' => e = .returned (.bool false) ∧ w' = w from fun w => by
    have := validRune_calls r w h1
    rwa [hv] at this)
  clear hv
  go_enter Try.func16, Try.ntmps16
  go_wp2_with (go_at_call 23; refine (HI.out _).mono ?_; rintro e w' ⟨rfl, rfl⟩)
  go_ret
  exact ⟨rfl, rfl⟩
set_option maxHeartbeats 4000000 in
set_option maxRecDepth 100000 in
theorem rune_valid (r : Int) (w : World) (h : 128 ≤ r) (hv : Utf8.valid r = true) (h65 : r ≠ 65533) : Calls Try.prog 16 #[.string hexS, .int .i32 r] w fun e w' => e = .returned (.int .i64 (-1)) ∧ ∃ n, w' = w.drewN n := by
  have h1 : (0 : Int) ≤ r := by omega
  have h2 : ¬ r < 128 := by omega
  have h4 : (r == 65533) = false := beq_eq_false_iff_ne.mpr h65
  have hcv : ∀ w, (convert 21 9 (.int .i32 r)).run Try.prog w = .ok (.string (Utf8.encode r)) w := fun w => run_convert_int_string w 21 9 .i32 r (by kernel_rfl) Try.underlying9
  obtain ⟨hs1, hs2, hlast⟩ := encode_facts r hv h
  have HI := Lib.hid (show ∀ w, Calls Try.prog 23 #[.int .i32 r] w fun e w' => e = .returned (.bool true) ∧ w' = w from fun w => by
    have := validRune_calls r w h1
    rwa [hv] at this)
  generalize Utf8.encode r = rs at *
  have hz : rs.size = 2 ∨ rs.size = 3 ∨ rs.size = 4 := by omega
  clear hv h65 hs1 hs2
  have each : ∀ k : Nat, 1 ≤ k → k ≤ 3 → rs.size = k + 1 → ∃ c : Nat, c < 256 ∧ 128 ≤ c ∧ (∀ w, (Instr.index 9 (.string rs) (.int .i64 (k : Int))).run Try.prog w = .ok (.int .u8 (c : Int)) w) ∧
      ∀ w, Calls Try.prog 22 #[.string (hexS.extract (k + 1) 16), .int .u8 (c : Int)] w fun e w' => e = .returned (.int .i64 (-1)) ∧ w' = w := by
    intro k hk1 hk2 hk
    have hlt : k < rs.size := by omega
    have hl := hlast (by omega)
    have e1 : rs.size - 1 = k := by omega
    have hl' : 128 ≤ (rs[k]'hlt).toNat := by
      simp only [e1] at hl
      exact hl
    refine ⟨(rs[k]'hlt).toNat, UInt8.toNat_lt _, hl', fun w => ?_, fun w => ?_⟩
    · have hb : (0 : Int) ≤ (k : Int) ∧ (k : Int) < (rs.size : Int) := by omega
      have hn : ((k : Int)).toNat = k := by omega
      go_simp
      rw [dif_pos (by omega)]
    · have := indexByte_calls (hexS.extract (k + 1) 16) (((rs[k]'hlt).toNat : Nat) : Int) w
      rw [Int.toNat_natCast, rest_high (k + 1) (by omega) _ (by simpa using hl')] at this
      exact this
  rcases hz with hz | hz | hz
  · obtain ⟨c, hc1, hc2, hix0, hcall⟩ := each 1 (by omega) (by omega) (by omega)
    have hix : ∀ w, (Instr.index 9 (.string rs) (.int .i64 1)).run Try.prog w = .ok (.int .u8 (c : Int)) w := hix0
    have hx1 : ∀ w, (Instr.index 9 (.string hexS) (.int .i64 1)).run Try.prog w = .ok (.int .u8 49) w := fun _ => by kernel_rfl
    have hsl : ∀ w, (Instr.slice 9 (.string hexS) (some (.int .i64 2)) none none).run Try.prog w = .ok (.string (hexS.extract 2 16)) w := fun _ => by kernel_rfl
    have hw1 : IntKind.i64.wrap 2 = 2 := by decide
    have HC := Lib.hid (show ∀ w, Calls Try.prog 22 #[.string (hexS.extract 2 16), .int .u8 (c : Int)] w fun e w' => e = .returned (.int .i64 (-1)) ∧ w' = w from hcall)
    have hne : ¬ (49 : Int) = (c : Int) := by omega
    have hne2 : ((49 : Int) == (c : Int)) = false := beq_eq_false_iff_ne.mpr hne
    clear each hlast hcall hix0
    go_enter Try.func16, Try.ntmps16
    go_wp2_with (go_at_call 23; refine (HI.out _).mono ?_; rintro e w' ⟨rfl, rfl⟩)
    go_step3
    go_wp2
    refine wp_loop_rounds 1 ?_
    rw [rounds_succ]
    go_wp2
    go_step3
    go_wp2
    refine wp_region_quiet_lit (by kernel_rfl) (by kernel_rfl) ?_
    quiet_step (fail)
    quiet_step (fail)
    quiet_step (fail)
    quiet_step (fail)
    quiet_step (fail)
    quiet_step (fail)
    quiet_step (fail)
    refine wpQuiet_nil ?_
    intro _ hw'
    obtain ⟨n1, hw''⟩ := hw'
    subst hw''
    obtain ⟨w9, hw9⟩ : ∃ w9, w9 = w'.drewN n1 := ⟨_, rfl⟩
    rw [← hw9]
    have HW := Lib.hid hw9
    clear hw9
    go_wp2
    refine wp_region_quiet_lit (by kernel_rfl) (by kernel_rfl) ?_
    quiet_step (fail)
    quiet_step (fail)
    quiet_step (fail)
    quiet_step (fail)
    quiet_step (fail)
    quiet_step (fail)
    quiet_step (fail)
    quiet_step ((go_at_call 22; exact Calls.quiet_of_same (HC.out _)))
    quiet_step (fail)
    refine wpQuiet_nil ?_
    intro _ hw'
    obtain ⟨n2, hw''⟩ := hw'
    subst hw''
    go_wp2
    simp only [Exit.noGoto, Exit.inBlock, Exit.then]
    go_ret
    exact ⟨rfl, _, by rw [HW.out, World.drewN_drewN]⟩
  · obtain ⟨c, hc1, hc2, hix0, hcall⟩ := each 2 (by omega) (by omega) (by omega)
    have hix : ∀ w, (Instr.index 9 (.string rs) (.int .i64 2)).run Try.prog w = .ok (.int .u8 (c : Int)) w := hix0
    have hx1 : ∀ w, (Instr.index 9 (.string hexS) (.int .i64 2)).run Try.prog w = .ok (.int .u8 50) w := fun _ => by kernel_rfl
    have hsl : ∀ w, (Instr.slice 9 (.string hexS) (some (.int .i64 3)) none none).run Try.prog w = .ok (.string (hexS.extract 3 16)) w := fun _ => by kernel_rfl
    have hw2 : IntKind.i64.wrap 3 = 3 := by decide
    have HC := Lib.hid (show ∀ w, Calls Try.prog 22 #[.string (hexS.extract 3 16), .int .u8 (c : Int)] w fun e w' => e = .returned (.int .i64 (-1)) ∧ w' = w from hcall)
    have hne : ¬ (50 : Int) = (c : Int) := by omega
    have hne2 : ((50 : Int) == (c : Int)) = false := beq_eq_false_iff_ne.mpr hne
    clear each hlast hcall hix0
    go_enter Try.func16, Try.ntmps16
    go_wp2_with (go_at_call 23; refine (HI.out _).mono ?_; rintro e w' ⟨rfl, rfl⟩)
    go_step3
    go_wp2
    refine wp_loop_rounds 1 ?_
    rw [rounds_succ]
    go_wp2
    go_step3
    go_wp2
    refine wp_region_quiet_lit (by kernel_rfl) (by kernel_rfl) ?_
    quiet_step (fail)
    quiet_step (fail)
    quiet_step (fail)
    quiet_step (fail)
    quiet_step (fail)
    quiet_step (fail)
    quiet_step (fail)
    refine wpQuiet_nil ?_
    intro _ hw'
    obtain ⟨n1, hw''⟩ := hw'
    subst hw''
    obtain ⟨w9, hw9⟩ : ∃ w9, w9 = w'.drewN n1 := ⟨_, rfl⟩
    rw [← hw9]
    have HW := Lib.hid hw9
    clear hw9
    go_wp2
    refine wp_region_quiet_lit (by kernel_rfl) (by kernel_rfl) ?_
    quiet_step (fail)
    quiet_step (fail)
    quiet_step (fail)
    quiet_step (fail)
    quiet_step (fail)
    quiet_step (fail)
    quiet_step (fail)
    quiet_step ((go_at_call 22; exact Calls.quiet_of_same (HC.out _)))
    quiet_step (fail)
    refine wpQuiet_nil ?_
    intro _ hw'
    obtain ⟨n2, hw''⟩ := hw'
    subst hw''
    go_wp2
    simp only [Exit.noGoto, Exit.inBlock, Exit.then]
    go_ret
    exact ⟨rfl, _, by rw [HW.out, World.drewN_drewN]⟩
  · obtain ⟨c, hc1, hc2, hix0, hcall⟩ := each 3 (by omega) (by omega) (by omega)
    have hix : ∀ w, (Instr.index 9 (.string rs) (.int .i64 3)).run Try.prog w = .ok (.int .u8 (c : Int)) w := hix0
    have hx1 : ∀ w, (Instr.index 9 (.string hexS) (.int .i64 3)).run Try.prog w = .ok (.int .u8 51) w := fun _ => by kernel_rfl
    have hsl : ∀ w, (Instr.slice 9 (.string hexS) (some (.int .i64 4)) none none).run Try.prog w = .ok (.string (hexS.extract 4 16)) w := fun _ => by kernel_rfl
    have hw3 : IntKind.i64.wrap 4 = 4 := by decide
    have HC := Lib.hid (show ∀ w, Calls Try.prog 22 #[.string (hexS.extract 4 16), .int .u8 (c : Int)] w fun e w' => e = .returned (.int .i64 (-1)) ∧ w' = w from hcall)
    have hne : ¬ (51 : Int) = (c : Int) := by omega
    have hne2 : ((51 : Int) == (c : Int)) = false := beq_eq_false_iff_ne.mpr hne
    clear each hlast hcall hix0
    go_enter Try.func16, Try.ntmps16
    go_wp2_with (go_at_call 23; refine (HI.out _).mono ?_; rintro e w' ⟨rfl, rfl⟩)
    go_step3
    go_wp2
    refine wp_loop_rounds 1 ?_
    rw [rounds_succ]
    go_wp2
    go_step3
    go_wp2
    refine wp_region_quiet_lit (by kernel_rfl) (by kernel_rfl) ?_
    quiet_step (fail)
    quiet_step (fail)
    quiet_step (fail)
    quiet_step (fail)
    quiet_step (fail)
    quiet_step (fail)
    quiet_step (fail)
    refine wpQuiet_nil ?_
    intro _ hw'
    obtain ⟨n1, hw''⟩ := hw'
    subst hw''
    obtain ⟨w9, hw9⟩ : ∃ w9, w9 = w'.drewN n1 := ⟨_, rfl⟩
    rw [← hw9]
    have HW := Lib.hid hw9
    clear hw9
    go_wp2
    refine wp_region_quiet_lit (by kernel_rfl) (by kernel_rfl) ?_
    quiet_step (fail)
    quiet_step (fail)
    quiet_step (fail)
    quiet_step (fail)
    quiet_step (fail)
    quiet_step (fail)
    quiet_step (fail)
    quiet_step ((go_at_call 22; exact Calls.quiet_of_same (HC.out _)))
    quiet_step (fail)
    refine wpQuiet_nil ?_
    intro _ hw'
    obtain ⟨n2, hw''⟩ := hw'
    subst hw''
    go_wp2
    simp only [Exit.noGoto, Exit.inBlock, Exit.then]
    go_ret
    exact ⟨rfl, _, by rw [HW.out, World.drewN_drewN]⟩
theorem hexS_low : ∀ k : Fin 16, (hexS.data[k.val]'k.isLt).toNat < 128 := by decide +kernel
set_option maxHeartbeats 4000000 in
set_option maxRecDepth 100000 in
theorem rune_error (w : World) : Calls Try.prog 16 #[.string hexS, .int .i32 65533] w fun e w' => e = .returned (.int .i64 (-1)) ∧ Below w.heap.size w w' := by
  go_enter Try.func16, Try.ntmps16
  go_wp2
  go_loopg [5, 6] 16 (fun k _ _ wr => ∃ i : Nat, i ≤ 16 ∧ wr.heap[w.heap.size]? = some (.stringIter hexS i) ∧ Below w.heap.size w wr ∧ k = 16 - i)
  case atStart => exact ⟨0, by omega, World.iter_heap w hexS 0, (Below.refl _ _).alloc (Nat.le_refl _) _, rfl⟩
  case round =>
    obtain ⟨i, hi, hit, hB, rfl⟩ := hrel
    by_cases hlt : i < 16
    · have hp : i < hexS.size := hlt
      have hnx : ∀ ty, (Instr.next (.pointer (some ⟨w.heap.size, 0, none⟩)) true ty).run Try.prog wr = _ := fun ty => Lib.run_next_ascii_at wr w.heap.size hexS i ty hit hp (hexS_low ⟨i, hlt⟩)
      have hlow : (hexS[i]'hp).toNat < 128 := hexS_low ⟨i, hlt⟩
      have hit2 := Lib.iterAt_heap wr w.heap.size hexS i (i + 1) hit
      have hB2 := Lib.below_iterAt hB (k := w.heap.size) (Nat.le_refl _) hexS (i + 1)
      have hne : ¬ (((hexS[i]'hp).toNat : Nat) : Int) = 65533 := by omega
      have hne2 : ((((hexS[i]'hp).toNat : Nat) : Int) == 65533) = false := beq_eq_false_iff_ne.mpr hne
      clear hit hB
      generalize (hexS[i]'hp).toNat = c at *
      generalize wr.iterAt w.heap.size hexS (i + 1) = w2 at *
      go_wp2
      go_roundg (16 - (i + 1))
      case measure => omega
      case rel => exact ⟨i + 1, by omega, hit2, hB2, rfl⟩
    · have hp : ¬ i < hexS.size := hlt
      have hnx : ∀ ty, (Instr.next (.pointer (some ⟨w.heap.size, 0, none⟩)) true ty).run Try.prog wr = _ := fun ty => Lib.run_next_end_at wr w.heap.size hexS i ty hit hp
      go_wp2
      go_ret
      exact ⟨rfl, hB⟩
/-- A rune that is no byte of the digits. -/
theorem rune_high (r : Int) (w : World) (h : 128 ≤ r) : Calls Try.prog 16 #[.string hexS, .int .i32 r] w fun e w' => e = .returned (.int .i64 (-1)) ∧ Below w.heap.size w w' := by
  by_cases h65 : r = 65533
  · subst h65
    exact rune_error w
  · cases hv : Utf8.valid r with
    | false => exact (rune_invalid r w h hv).mono fun e w' ⟨a, b⟩ => ⟨a, by rw [b]; exact Below.refl _ _⟩
    | true => exact (rune_valid r w h hv h65).mono fun e w' ⟨a, n, b⟩ => ⟨a, by rw [b]; exact pw_below_drewN (Below.refl _ _) n⟩
end Go.Proofs.Ytegjphfkkafomaa.Dg
