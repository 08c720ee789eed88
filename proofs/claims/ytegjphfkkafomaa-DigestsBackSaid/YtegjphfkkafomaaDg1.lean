/- The library's functions that digests call: comparing, finding a byte, a prefix cut off, a rune in the digits. -/
import Derived.Test.YtegjphfkkafomaaDg0
import Derived.Lib.Bytealg
import Derived.Laws.Runes
import Derived.Laws.RangeAny
import Derived.Lib.OthersKept
import Derived.Laws.Externs
import Derived.BigCall
import Derived.BigGuard
namespace Go.Proofs.Ytegjphfkkafomaa.Dg
open Go.RowKit Go.Proofs Go.Proofs.YtegjphfkkafomaaW.PrintWords Go.Proofs.YtegjphfkkafomaaW.PrintLast Go.Proofs.YtegjphfkkafomaaW.PrintMore

set_option maxHeartbeats 1000000 in
set_option maxRecDepth 100000 in
theorem cmp28 (a b : ByteArray) (w : World) : Calls Try.prog 28 #[.string a, .string b] w fun e w' => e = .returned (.int .i64 (Lib.compareBytes a.data.toList b.data.toList)) ∧ w' = w := by
  go_enter Try.func28, Try.ntmps28
  go_wp2
  rw [run_callFunc_extern Try.func32 (by kernel_rfl) (by kernel_rfl) (by kernel_rfl) (e := Extern.BytealgCompare.compare) (by kernel_rfl), Lib.run_compareString]
  simp only [Result.andThen]
  rw [Oper.upon_value]
  go_wp2
  go_ret
  exact ⟨rfl, rfl⟩
set_option maxHeartbeats 1000000 in
theorem compare_calls (a b : ByteArray) (w : World) : Calls Try.prog 20 #[.string a, .string b] w fun e w' => e = .returned (.int .i64 (Lib.compareBytes a.data.toList b.data.toList)) ∧ w' = w := by
  go_enter Try.func20, Try.ntmps20
  go_wp2_with (go_at_call 28; refine (cmp28 _ _ _).mono ?_; rintro e w' ⟨rfl, rfl⟩)
  go_ret
  exact ⟨rfl, rfl⟩
set_option maxHeartbeats 1000000 in
set_option maxRecDepth 100000 in
theorem idx30 (s : ByteArray) (c : Int) (w : World) : Calls Try.prog 30 #[.string s, .int .u8 c] w fun e w' => e = .returned (.int .i64 (Lib.indexByte s.data.toList c.toNat.toUInt8)) ∧ w' = w := by
  go_enter Try.func30, Try.ntmps30
  go_wp2
  rw [run_callFunc_extern Try.func33 (by kernel_rfl) (by kernel_rfl) (by kernel_rfl) (e := Extern.BytealgIndexByte.indexByte) (by kernel_rfl), Lib.run_indexByteString]
  simp only [Result.andThen]
  rw [Oper.upon_value]
  go_wp2
  go_ret
  exact ⟨rfl, rfl⟩
set_option maxHeartbeats 1000000 in
theorem indexByte_calls (s : ByteArray) (c : Int) (w : World) : Calls Try.prog 22 #[.string s, .int .u8 c] w fun e w' => e = .returned (.int .i64 (Lib.indexByte s.data.toList c.toNat.toUInt8)) ∧ w' = w := by
  go_enter Try.func22, Try.ntmps22
  go_wp2_with (go_at_call 30; refine (idx30 _ _ _).mono ?_; rintro e w' ⟨rfl, rfl⟩)
  go_ret
  exact ⟨rfl, rfl⟩

/-! ### A prefix cut off -/
theorem eql_str (a b : ByteArray) (w : World) : (Op.stringOp .eql a b).run Try.prog w = .ok (.bool (a.toList == b.toList)) w := rfl
set_option maxHeartbeats 1000000 in
theorem hasPrefix_short (s p : ByteArray) (w : World) (h : s.size < p.size) : Calls Try.prog 29 #[.string s, .string p] w fun e w' => e = .returned (.bool false) ∧ w' = w := by
  have h1 : ¬ (p.size : Int) ≤ (s.size : Int) := by omega
  have h2 : ¬ p.size ≤ s.size := by omega
  go_enter Try.func29, Try.ntmps29
  go_wp2
  go_ret
  exact ⟨rfl, rfl⟩
set_option maxHeartbeats 1000000 in
theorem hasPrefix_long (s p t : ByteArray) (w : World) (h : p.size ≤ s.size) (ht : t = s.extract 0 p.size) : Calls Try.prog 29 #[.string s, .string p] w fun e w' => e = .returned (.bool (t.toList == p.toList)) ∧ w' = w := by
  have h1 : (p.size : Int) ≤ (s.size : Int) := by omega
  have HT := Lib.hid ht
  have hsl : ∀ w, (Instr.slice 9 (.string s) none (some (.int .i64 (p.size : Int))) none).run Try.prog w = .ok (.string t) w := fun w => by
    rw [ht]
    have := h
    go_simp
  clear ht
  go_enter Try.func29, Try.ntmps29
  go_wp2
  go_ret
  exact ⟨rfl, rfl⟩
theorem str_beq (a b : ByteArray) : (a.toList == b.toList) = decide (a = b) := by
  rw [ByteArray.toList_eq, ByteArray.toList_eq, Bool.eq_iff_iff, beq_iff_eq, decide_eq_true_iff]
  constructor
  · intro h
    apply ByteArray.ext
    exact Array.toList_inj.1 h
  · intro h
    rw [h]
theorem cut_split (p r : ByteArray) : (p ++ r).extract 0 p.size = p ∧ (p ++ r).extract p.size (p ++ r).size = r := by
  constructor
  · apply ByteArray.ext
    simp
  · have e1 : p.data.extract p.size (p.size + r.size) = #[] := by
      apply Array.eq_empty_of_size_eq_zero
      rw [Array.size_extract]
      show min (p.data.size + r.data.size) p.data.size - p.data.size = 0
      omega
    have e2 : r.data.extract 0 r.size = r.data := by
      exact Array.extract_size
    apply ByteArray.ext
    simp [e1, e2]
theorem cut_join (s p : ByteArray) (h : p.size ≤ s.size) (he : s.extract 0 p.size = p) : s = p ++ s.extract p.size s.size := by
  rw [← he]
  apply ByteArray.ext
  have hp : (s.extract 0 p.size).size = p.size := by simp; omega
  simp [hp]
set_option maxHeartbeats 1000000 in
theorem cut21_yes (p r : ByteArray) (w : World) : Calls Try.prog 21 #[.string (p ++ r), .string p] w fun e w' => e = .returned (.tuple #[.string r, .bool true]) ∧ w' = w := by
  obtain ⟨h1, h2⟩ := cut_split p r
  have hsz : (p ++ r).size = p.size + r.size := ByteArray.size_append
  have HP0 : ∀ w, Calls Try.prog 29 #[.string (p ++ r), .string p] w fun e w' => e = .returned (.bool true) ∧ w' = w := fun w => by
    have := hasPrefix_long (p ++ r) p p w (by omega) h1.symm
    rwa [str_beq, decide_eq_true rfl] at this
  have hsl0 : ∀ w, (Instr.slice 9 (.string (p ++ r)) (some (.int .i64 (p.size : Int))) none none).run Try.prog w = .ok (.string ((p ++ r).extract p.size (p ++ r).size)) w := fun w => by
    have c1 : (p.size : Int) ≤ ((p ++ r).size : Int) := by omega
    generalize p ++ r = s at c1
    go_simp
  rw [h2] at hsl0
  clear h1 h2 hsz
  generalize p ++ r = s at *
  have hsl := hsl0
  have HP := Lib.hid HP0
  clear hsl0 HP0
  go_enter Try.func21, Try.ntmps21
  go_wp2_with (go_at_call 29; refine (HP.out _).mono ?_; rintro e w' ⟨rfl, rfl⟩)
  go_ret2
  exact ⟨rfl, rfl⟩
set_option maxHeartbeats 1000000 in
theorem cut21_no (s p : ByteArray) (w : World) (h : ∀ r, s ≠ p ++ r) : Calls Try.prog 21 #[.string s, .string p] w fun e w' => e = .returned (.tuple #[.string s, .bool false]) ∧ w' = w := by
  have HP := Lib.hid (show ∀ w, Calls Try.prog 29 #[.string s, .string p] w fun e w' => e = .returned (.bool false) ∧ w' = w from fun w => by
    by_cases hlt : s.size < p.size
    · exact hasPrefix_short s p w hlt
    · have := hasPrefix_long s p _ w (by omega) rfl
      rwa [str_beq, decide_eq_false (fun e => h _ (cut_join s p (by omega) e))] at this)
  clear h
  go_enter Try.func21, Try.ntmps21
  go_wp2_with (go_at_call 29; refine (HP.out _).mono ?_; rintro e w' ⟨rfl, rfl⟩)
  go_ret2
  exact ⟨rfl, rfl⟩
set_option maxHeartbeats 1000000 in
theorem cut_yes (p r : ByteArray) (w : World) : Calls Try.prog 15 #[.string (p ++ r), .string p] w fun e w' => e = .returned (.tuple #[.string r, .bool true]) ∧ w' = w := by
  have HP := Lib.hid (fun w => cut21_yes p r w)
  go_enter Try.func15, Try.ntmps15
  go_wp2_with (go_at_call 21; refine (HP.out _).mono ?_; rintro e w' ⟨rfl, rfl⟩)
  go_ret2
  exact ⟨rfl, rfl⟩
set_option maxHeartbeats 1000000 in
theorem cut_no (s p : ByteArray) (w : World) (h : ∀ r, s ≠ p ++ r) : Calls Try.prog 15 #[.string s, .string p] w fun e w' => e = .returned (.tuple #[.string s, .bool false]) ∧ w' = w := by
  have HP := Lib.hid (fun w => cut21_no s p w h)
  clear h
  go_enter Try.func15, Try.ntmps15
  go_wp2_with (go_at_call 21; refine (HP.out _).mono ?_; rintro e w' ⟨rfl, rfl⟩)
  go_ret2
  exact ⟨rfl, rfl⟩

/-! ### A rune in the digits -/
def hexS : ByteArray := { data := #[48, 49, 50, 51, 52, 53, 54, 55, 56, 57, 97, 98, 99, 100, 101, 102] }
set_option maxHeartbeats 1000000 in
theorem validRune_calls (r : Int) (w : World) (h : 0 ≤ r) : Calls Try.prog 23 #[.int .i32 r] w fun e w' => e = .returned (.bool (Utf8.valid r)) ∧ w' = w := by
  have hv : ∀ b, ((r < 55296 ∨ (57343 < r ∧ r ≤ 1114111)) ↔ b = true) → Utf8.valid r = b := fun b hb => by
    rw [Bool.eq_iff_iff, ← hb]
    unfold Utf8.valid
    simp
    omega
  by_cases h1 : r < 55296
  · have HV := Lib.hid (hv true (by simp; omega))
    clear hv
    go_enter Try.func23, Try.ntmps23
    go_wp2
    go_ret
    exact ⟨by rw [HV.out]; rfl, rfl⟩
  · by_cases h2 : 57343 < r
    · by_cases h3 : r ≤ 1114111
      · have HV := Lib.hid (hv true (by simp; omega))
        clear hv
        go_enter Try.func23, Try.ntmps23
        go_wp2
        go_ret
        exact ⟨by rw [HV.out]; rfl, rfl⟩
      · have HV := Lib.hid (hv false (by simp; omega))
        clear hv
        go_enter Try.func23, Try.ntmps23
        go_wp2
        go_ret
        exact ⟨by rw [HV.out]; rfl, rfl⟩
    · have HV := Lib.hid (hv false (by simp; omega))
      clear hv
      go_enter Try.func23, Try.ntmps23
      go_wp2
      go_ret
      exact ⟨by rw [HV.out]; rfl, rfl⟩
end Go.Proofs.Ytegjphfkkafomaa.Dg
