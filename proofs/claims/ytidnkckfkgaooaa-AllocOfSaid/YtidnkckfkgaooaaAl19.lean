/- The document's map: its bits as bytes: the walk. -/
import Derived.Test.YtidnkckfkgaooaaAl18
namespace Go.Proofs.Ytidnkckfkgaooaa.Al
open Go.RowKit Go.Shelf Go.Proofs Go.Proofs.Ytidnkckfkgaooaa.Ext Go.Proofs.Ytidnkckfkgaooaa.Pure Go.Proofs.YtidnkckfkgaooaaW.PrintWords Go.Proofs.YtidnkckfkgaooaaW.PrintLast Go.Proofs.YtidnkckfkgaooaaW.PrintMore
attribute [local irreducible] packT
set_option maxHeartbeats 2000000 in
theorem refBytes_calls (w : World) (base q g cap N : Nat) (f : Nat → Bool) (h : RAt w base q g cap N f) (hN : N ≤ 4096) : Calls Try.prog 39 #[.pointer (some ⟨q, 0, none⟩)] w fun e w' => e = .returned (.string (packT f ((N + 7) / 8) N)) ∧ Below w.heap.size w w' := by
  obtain ⟨i0, hi, hz0, hz1, hz2⟩ := info_parts Ext.info5
  obtain ⟨m, hm⟩ : ∃ m, m = (N + 7) / 8 := ⟨_, rfl⟩
  have hmI : ((N : Int) + 7) / 8 = (m : Int) := by omega
  have hmk : ∀ W : World, (Instr.makeSlice 64 (.int .i64 (((N : Int) + 7) / 8)) (.int .i64 (((N : Int) + 7) / 8))).run Try.prog W = .ok (.slice (some ⟨W.heap.size, 0, none⟩) m m) (W.alloc (.cells (madeCells #[.int .u8 0] m) 5)) := fun W => by
    rw [hmI]
    have h := run_make (P := Try.prog) W 64 5 i0 (.int .u8 0) Try.underlying64 hi hz0 .i64 .i64 m m (by omega) (by omega) (by rw [hz2]; omega) (by omega)
    rw [hz1, Nat.mul_one] at h
    simpa [Value.cells] using h
  have h8m : N ≤ 8 * m := by omega
  rw [← hm]
  have HM0 := Lib.hid hm
  clear hi hz0 hz1 hz2 hm hmI
  have c0 := h.c0
  have HR := Lib.hid h
  clear h
  obtain ⟨ag, hag⟩ : ∃ ag, ag = (⟨g, 0, none⟩ : Addr) := ⟨_, rfl⟩
  rw [← hag] at c0
  have HAG := Lib.hid hag
  clear hag
  go_enter Try.func39, Try.ntmps39
  go_wp2
  clear hmk
  have hT0 : RowT (w.alloc (.cells (madeCells #[.int .u8 0] m) 5)) w.heap.size m (packT f m 0) := by
    refine ⟨_, alloc_new _ _ _ rfl, ?_, fun j hj => ?_⟩
    · have h1 := congrArg List.length (toList_madeCells_one (.int .u8 0) m)
      rw [Array.length_toList, List.length_replicate] at h1
      exact h1
    · rw [made_get m j hj, show packT f m 0 = zeroS m by unfold packT; rfl, byteN_zeroS]
      rfl
  have hB0 : Below w.heap.size w (w.alloc (.cells (madeCells #[.int .u8 0] m) 5)) := (Below.refl _ _).alloc (Nat.le_refl _) _
  generalize w.alloc (.cells (madeCells #[.int .u8 0] m) 5) = w1 at *
  obtain ⟨ab, hab⟩ : ∃ ab, ab = (⟨w.heap.size, 0, none⟩ : Addr) := ⟨_, rfl⟩
  rw [← hab]
  have HAB := Lib.hid hab
  clear hab
  go_loopg [4, 5] N (fun k v4 v5 wr => ∃ i wt : Nat, v5 = .int .i64 (i : Int) ∧ v4 = .int .u8 (wt : Int) ∧ i ≤ N ∧ Aside0 (wt = 2 ^ (i % 8)) ∧ RowT wr w.heap.size m (packT f m i) ∧ Below w.heap.size w wr ∧ k = N - i)
  case atStart => exact ⟨0, 1, rfl, rfl, by omega, ⟨rfl⟩, hT0, hB0, rfl⟩
  case round =>
    clear hT0 hB0
    obtain ⟨i, wt, rfl, rfl, hi, HW, hT, hB, rfl⟩ := hrel
    have R := HR.out.keepB (hB.mono (Nat.le_refl _))
    have c0 := R.c0
    rw [← HAG.out] at c0
    by_cases hil : i < N
    · have c1 : (i : Int) < (N : Int) := by omega
      have c3 : ((i : Int)).toNat = i := by omega
      have c4 : (0 : Int) ≤ (i : Int) := by omega
      have hb := R.bit i hil
      rw [← HAG.out] at hb
      have hwl : wt ≤ 128 := by
        rw [HW.out]
        have : 2 ^ (i % 8) ≤ 2 ^ 7 := Nat.pow_le_pow_right (by omega) (by omega)
        exact this
      clear R
      cases hf : f i with
      | true =>
        rw [hf] at hb
        have hq : i / 8 < m := by omega
        have hc := hT.cell (i / 8) hq
        have hfz := hT.frozen (i / 8)
        rw [← HAB.out] at hc hfz
        have hlt := pack_lt f m i (by omega) hf
        rw [← HW.out] at hlt
        have hT2 := hT.set (t' := packT f m (i + 1)) (i / 8) hq (byteN (packT f m i) (i / 8) + wt) (fun j hj => by
          rw [pack_byte f m i j (by omega) hj hf]
          split
          · rename_i e
            rw [e, HW.out]
          · rfl)
        rw [← HAB.out] at hT2
        have hB2 : Below w.heap.size w (wr.setCell (ab.add (i / 8)) (.int .u8 ((byteN (packT f m i) (i / 8) + wt : Nat) : Int))) := hB.setCell (p := ab.add (i / 8)) (by rw [HAB.out, add_zero]; exact Nat.le_refl _) _
        have HT2 := Lib.hid hT2
        have HB2 := Lib.hid hB2
        clear hT hT2 hB2 hf
        generalize byteN (packT f m i) (i / 8) = b0 at *
        have k1 : IntKind.u8.wrap ((b0 : Int) + (wt : Int)) = ((b0 + wt : Nat) : Int) := by rw [IntKind.wrap_u8]; omega
        have k2 : ((i : Int) / 8).toNat = i / 8 := by omega
        have k3 : (0 : Int) ≤ (i : Int) / 8 := by omega
        have k4 : (i : Int) / 8 < (m : Int) := by omega
        by_cases h7 : i % 8 = 7
        · have e7 : ((i : Int) % 8 == 7) = true := beq_iff_eq.mpr (by omega)
          have HW2 := Lib.hid (show 1 = 2 ^ ((i + 1) % 8) by rw [show (i + 1) % 8 = 0 from by omega])
          go_wp2
          go_roundg (N - (i + 1))
          case measure => omega
          case rel => exact ⟨i + 1, 1, by simp, rfl, by omega, ⟨HW2.out⟩, HT2.out, HB2.out, rfl⟩
        · have e7 : ((i : Int) % 8 == 7) = false := beq_eq_false_iff_ne.mpr (by omega)
          have HW2 := Lib.hid (show 2 * wt = 2 ^ ((i + 1) % 8) by rw [HW.out, show (i + 1) % 8 = i % 8 + 1 from by omega, Nat.pow_succ, Nat.mul_comm])
          have hw2 : 2 * wt ≤ 128 := by
            rw [HW2.out]
            have : 2 ^ ((i + 1) % 8) ≤ 2 ^ 7 := Nat.pow_le_pow_right (by omega) (by omega)
            exact this
          have k5 : IntKind.u8.wrap ((wt : Int) * 2) = ((2 * wt : Nat) : Int) := by rw [IntKind.wrap_u8]; omega
          go_wp2
          go_roundg (N - (i + 1))
          case measure => omega
          case rel => exact ⟨i + 1, 2 * wt, by simp, by simp, by omega, ⟨HW2.out⟩, HT2.out, HB2.out, rfl⟩
      | false =>
        rw [hf] at hb
        rw [← pack_byte0 f m i hf] at hT
        clear hf
        by_cases h7 : i % 8 = 7
        · have e7 : ((i : Int) % 8 == 7) = true := beq_iff_eq.mpr (by omega)
          have HW2 := Lib.hid (show 1 = 2 ^ ((i + 1) % 8) by rw [show (i + 1) % 8 = 0 from by omega])
          go_wp2
          go_roundg (N - (i + 1))
          case measure => omega
          case rel => exact ⟨i + 1, 1, by simp, rfl, by omega, ⟨HW2.out⟩, hT, hB, rfl⟩
        · have e7 : ((i : Int) % 8 == 7) = false := beq_eq_false_iff_ne.mpr (by omega)
          have HW2 := Lib.hid (show 2 * wt = 2 ^ ((i + 1) % 8) by rw [HW.out, show (i + 1) % 8 = i % 8 + 1 from by omega, Nat.pow_succ, Nat.mul_comm])
          have hw2 : 2 * wt ≤ 128 := by
            rw [HW2.out]
            have : 2 ^ ((i + 1) % 8) ≤ 2 ^ 7 := Nat.pow_le_pow_right (by omega) (by omega)
            exact this
          have k5 : IntKind.u8.wrap ((wt : Int) * 2) = ((2 * wt : Nat) : Int) := by rw [IntKind.wrap_u8]; omega
          go_wp2
          go_roundg (N - (i + 1))
          case measure => omega
          case rel => exact ⟨i + 1, 2 * wt, by simp, by simp, by omega, ⟨HW2.out⟩, hT, hB, rfl⟩
    · have c1 : ¬ (i : Int) < (N : Int) := by omega
      have hcv := hT.text (packT_size f m i)
      rw [← HAB.out, show i = N from by omega] at hcv
      clear hT R
      go_wp2
      go_ret
      exact ⟨rfl, hB⟩
end Go.Proofs.Ytidnkckfkgaooaa.Al
