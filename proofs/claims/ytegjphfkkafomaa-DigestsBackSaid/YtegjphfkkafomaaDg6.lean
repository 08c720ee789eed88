/- Parse, by the reference: the walks. -/
import Derived.Test.YtegjphfkkafomaaDg5
namespace Go.Proofs.Ytegjphfkkafomaa.Dg
open Go.RowKit Go.Proofs Go.Proofs.YtegjphfkkafomaaW.PrintWords Go.Proofs.YtegjphfkkafomaaW.PrintLast Go.Proofs.YtegjphfkkafomaaW.PrintMore

theorem index_one (x : UInt8) (w : World) : (Instr.index 9 (.string ⟨#[x]⟩) (.int .i64 0)).run Try.prog w = .ok (.int .u8 (x.toNat : Int)) w := by kernel_rfl
theorem hx_inj (a b : Nat) (ha : a < 16) (hb : b < 16) (h : hx a = hx b) : a = b := by
  have h1 := hv_of_hx a ha
  rw [h, hv_of_hx b hb] at h1
  omega
set_option maxHeartbeats 1000000 in
theorem value_calls (c : UInt8) (w : World) : Calls Try.prog 18 #[.int .u8 (c.toNat : Int)] w fun e w' => e = .returned (.int .u8 ((hv c).toNat : Int)) ∧ w' = w := by
  obtain ⟨m, hm⟩ : ∃ m, m = (hv c).toNat := ⟨_, rfl⟩
  have hr := hv_range c
  have hm16 : m < 16 := by omega
  have HY := Lib.hid (show ∀ i, i < 16 → hx i = c → m = i from fun i hi e => by rw [hm, ← e, hv_of_hx i hi]; omega)
  have HZ := Lib.hid (show (∀ j, j < 16 → hx j ≠ c) → m = 0 from fun hall => by
    by_cases h : 0 ≤ hv c
    · exact absurd (hx_hv c h) (hall _ (by omega))
    · omega)
  rw [← hm]
  clear hm hr
  go_enter Try.func18, Try.ntmps18
  go_wp2
  go_loopg [3] 16 (fun k v3 wr => ∃ i : Nat, i ≤ 16 ∧ v3 = .int .u8 i ∧ (∀ j, j < i → hx j ≠ c) ∧ wr = w ∧ k = 16 - i)
  case atStart => exact ⟨0, by omega, rfl, (fun j hj => by omega), rfl, rfl⟩
  case round =>
    obtain ⟨i, hi, rfl, hall, rfl, rfl⟩ := hrel
    have HA := Lib.hid hall
    clear hall
    by_cases hlt : i < 16
    · have t1 : (i : Int) < 16 := by omega
      have t2 : ((i : Int) + 1) % 256 = (i : Int) + 1 := by omega
      have t3 : IntKind.u8.wrap ((i : Int) + 1) = (i : Int) + 1 := by rw [IntKind.wrap_u8]; omega
      have hix := index_one (hx i)
      have HD := Lib.hid (fun w => digit_calls w i hlt)
      by_cases e : hx i = c
      · have HM := Lib.hid (HY.out i hlt e)
        have q1 : (((hx i).toNat : Nat) : Int) = (c.toNat : Int) := by rw [e]
        have q2 : ((((hx i).toNat : Nat) : Int) == (c.toNat : Int)) = true := beq_iff_eq.mpr q1
        clear e q1
        generalize hx i = x at *
        go_wp2_with (go_at_call 19; refine (HD.out _).mono ?_; rintro e w' ⟨rfl, rfl⟩)
        go_ret
        exact ⟨by rw [HM.out]; rfl, rfl⟩
      · have q0 : (hx i).toNat ≠ c.toNat := fun h => e (UInt8.toNat_inj.1 h)
        have q1 : ¬ (((hx i).toNat : Nat) : Int) = (c.toNat : Int) := by omega
        have q2 : ((((hx i).toNat : Nat) : Int) == (c.toNat : Int)) = false := beq_eq_false_iff_ne.mpr q1
        have HA2 := Lib.hid (show ∀ j, j < i + 1 → hx j ≠ c from fun j hj => by
          by_cases e2 : j = i
          · rw [e2]; exact e
          · exact HA.out j (by omega))
        clear e q0
        generalize hx i = x at *
        go_wp2_with (go_at_call 19; refine (HD.out _).mono ?_; rintro e w' ⟨rfl, rfl⟩)
        clear t2 t3 q1 q2
        go_roundg (16 - (i + 1))
        case measure => omega
        case rel => exact ⟨i + 1, by omega, by simp, HA2.out, rfl, rfl⟩
    · have e16 : i = 16 := by omega
      subst e16
      have HM := Lib.hid (HZ.out HA.out)
      go_wp2
      go_ret
      exact ⟨by rw [HM.out]; rfl, rfl⟩

/-- What the reference has read behind so many bytes. -/
def refL (s : List UInt8) (k : Nat) : List Nat := (List.range 32).map fun j => if j < k then 16 * hvN s (7 + 2 * j) + hvN s (8 + 2 * j) else 0
theorem refL_length (s : List UInt8) (k : Nat) : (refL s k).length = 32 := by unfold refL; simp
theorem refL_get (s : List UInt8) (k j : Nat) (h : j < 32) : (refL s k)[j]? = some (if j < k then 16 * hvN s (7 + 2 * j) + hvN s (8 + 2 * j) else 0) := by
  unfold refL
  rw [List.getElem?_map, List.getElem?_range h]
  rfl
theorem refL_lt (s : List UInt8) (k : Nat) : ∀ x ∈ refL s k, x < 256 := by
  intro x hx
  unfold refL at hx
  obtain ⟨j, _, rfl⟩ := List.mem_map.1 hx
  have h1 := hvN_lt s (7 + 2 * j)
  have h2 := hvN_lt s (8 + 2 * j)
  split <;> omega
theorem refL_zero (s : List UInt8) : refL s 0 = zeroD := by
  apply List.ext_getElem?
  intro j
  by_cases h : j < 32
  · rw [refL_get s 0 j h, if_neg (by omega)]
    unfold zeroD
    rw [List.getElem?_replicate, if_pos h]
  · rw [List.getElem?_eq_none (by rw [refL_length]; omega), List.getElem?_eq_none (by simp [zeroD]; omega)]
theorem refL_succ (s : List UInt8) (k : Nat) : refL s (k + 1) = (refL s k).set k (16 * hvN s (7 + 2 * k) + hvN s (8 + 2 * k)) := by
  apply List.ext_getElem?
  intro j
  by_cases hj : j < 32
  · rw [refL_get s (k + 1) j hj]
    by_cases e : j = k
    · subst e
      rw [List.getElem?_set_self (by rw [refL_length]; exact hj), if_pos (by omega)]
    · rw [List.getElem?_set_ne (by omega), refL_get s k j hj]
      congr 1
      by_cases h1 : j < k
      · rw [if_pos h1, if_pos (by omega)]
      · rw [if_neg h1, if_neg (by omega)]
  · rw [List.getElem?_eq_none (by rw [refL_length]; omega), List.getElem?_eq_none (by rw [List.length_set, refL_length]; omega)]
theorem getD_pre (r : ByteArray) (k : Nat) : (preS ++ r).data.toList.getD (7 + k) 0 = r.data.toList.getD k 0 := by
  have e : (preS ++ r).data.toList = preS.data.toList ++ r.data.toList := by simp [ByteArray.data_append]
  rw [e, List.getD_eq_getElem?_getD, List.getD_eq_getElem?_getD, List.getElem?_append_right (by show 7 ≤ 7 + k; omega)]
  show (r.data.toList[7 + k - 7]?).getD 0 = _
  rw [show 7 + k - 7 = k from by omega]
theorem refL_of_text {s : ByteArray} {l : List Nat} (h : IsText s l) : refL s.data.toList 32 = l := by
  have e := h.split
  rw [e, ← part_hexL l h.1 h.2.1]
  apply List.ext_getElem?
  intro j
  by_cases hj : j < 32
  · have g : ∀ k, hvN (preS ++ ⟨(hexL (partL (hexL l) 64)).toArray⟩).data.toList (7 + k) = hvN (hexL l) k := fun k => by
      unfold hvN
      rw [getD_pre, part_hexL l h.1 h.2.1]
    rw [refL_get _ 32 j hj, partL_get _ 64 j hj, if_pos hj, if_pos (by omega), g, show 8 + 2 * j = 7 + (2 * j + 1) from by omega, g]
  · rw [List.getElem?_eq_none (by rw [refL_length]; omega), List.getElem?_eq_none (by rw [partL_length]; omega)]
end Go.Proofs.Ytegjphfkkafomaa.Dg
