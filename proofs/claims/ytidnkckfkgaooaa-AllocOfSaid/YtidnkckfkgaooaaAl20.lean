/- The document's map of bits: the walk. -/
import Derived.Test.YtidnkckfkgaooaaAl19
namespace Go.Proofs.Ytidnkckfkgaooaa.Al
open Go.RowKit Go.Shelf Go.Proofs Go.Proofs.Ytidnkckfkgaooaa.Ext Go.Proofs.Ytidnkckfkgaooaa.Pure Go.Proofs.YtidnkckfkgaooaaW.PrintWords Go.Proofs.YtidnkckfkgaooaaW.PrintLast Go.Proofs.YtidnkckfkgaooaaW.PrintMore
theorem str_beq (a b : ByteArray) : (a.toList == b.toList) = decide (a = b) := by
  rw [ByteArray.toList_eq, ByteArray.toList_eq, Bool.eq_iff_iff, beq_iff_eq, decide_eq_true_iff]
  constructor
  · intro h
    apply ByteArray.ext
    exact Array.toList_inj.1 h
  · intro h
    rw [h]
/-- What Of answers. -/
def ROEnd (s : ByteArray) (n : Nat) (w : World) (e : Ending) (w' : World) : Prop := (OfOk s n ∧ REnd w n (hasB s) e w') ∨ (¬ OfOk s n ∧ NNone 10 w e w')
theorem refOf_none (s : ByteArray) (n : Int) (w : World) (h : n < 1 ∨ 4096 < n) : Calls Try.prog 41 #[.string s, .int .i64 n] w (NNone 2 w) := by
  have HN := Lib.hid (refNew_none n w h)
  clear h
  go_enter Try.func41, Try.ntmps41
  go_wp2_with (go_at_call 32; refine HN.out.mono ?_; rintro e w' ⟨rfl, hB⟩)
  go_ret2
  exact ⟨rfl, hB⟩
theorem bit_of (s : ByteArray) (i c : Nat) (hi : i < 8 * s.size) (hc : c = byteN s (i / 8) / 2 ^ (i % 8)) : ((c : Int) % 2 == 1) = hasB s i := by
  rw [hasB_eq, decide_eq_true hi, Bool.true_and, Nat.testBit_eq_decide_div_mod_eq, ← hc, Bool.eq_iff_iff, beq_iff_eq, decide_eq_true_eq]
  omega
set_option maxRecDepth 100000 in
set_option maxHeartbeats 2000000 in
theorem refOf_some (s : ByteArray) (n : Nat) (w : World) (h1 : 1 ≤ n) (h2 : n ≤ 4096) (hs : s.size ≤ 1000000) : Calls Try.prog 41 #[.string s, .int .i64 (n : Int)] w (ROEnd s n w) := by
  have HN := Lib.hid (refNew_some n w h1 h2)
  go_enter Try.func41, Try.ntmps41
  go_wp2_with (go_at_call 32; refine HN.out.mono ?_; rintro e w1 ⟨q, g, cap, rfl, R, hB⟩)
  clear HN
  obtain ⟨ag, hag⟩ : ∃ ag, ag = (⟨g, 0, none⟩ : Addr) := ⟨_, rfl⟩
  have HAG := Lib.hid hag
  clear hag
  go_loopg [8, 9, 10] n (fun k v8 _ _ wr => ∃ i : Nat, v8 = .int .i64 (i : Int) ∧ i ≤ n ∧ RAt wr w.heap.size q g cap n (fun j => decide (j < i) && hasB s j) ∧ Below w.heap.size w wr ∧ k = n - i)
  case atStart => exact ⟨0, rfl, by omega, R.congr (fun i _ => by simp), hB, rfl⟩
  case round =>
    clear R hB
    obtain ⟨i, rfl, hi, R, hB, rfl⟩ := hrel
    by_cases hil : i < n
    · have c1 : (i : Int) < (n : Int) := by omega
      have c0 : (0 : Int) ≤ (i : Int) / 8 := by omega
      by_cases his : i / 8 < s.size
      · have c2 : (i : Int) / 8 < (s.size : Int) := by omega
        have hx := bt_at s ((i : Int) / 8)
        have hbt : bt s ((i : Int) / 8) = ((byteN s (i / 8) : Nat) : Int) := by rw [show (i : Int) / 8 = ((i / 8 : Nat) : Int) from by omega, bt_byteN]
        have hbl := byteN_lt s (i / 8)
        have HBT := Lib.hid hbt
        clear hbt
        go_wp2
        clear hx
        go_loopg [9, 10] (i % 8) (fun k v9 v10 wr2 => ∃ j c : Nat, v10 = .int .i64 (j : Int) ∧ v9 = .int .u8 (c : Int) ∧ j ≤ i % 8 ∧ c < 256 ∧ Aside0 (c = byteN s (i / 8) / 2 ^ j) ∧ wr2 = wr ∧ k = i % 8 - j)
        case atStart => exact ⟨0, byteN s (i / 8), rfl, by rw [HBT.out], by omega, hbl, ⟨by rw [Nat.pow_zero, Nat.div_one]⟩, rfl, rfl⟩
        case round =>
          obtain ⟨j, c, rfl, rfl, hj, hc, HC, rfl, rfl⟩ := hrel
          by_cases hjl : j < i % 8
          · have c5 : (j : Int) < (i : Int) % 8 := by omega
            have HC2 := Lib.hid (show c / 2 = byteN s (i / 8) / 2 ^ (j + 1) by rw [HC.out, Nat.div_div_eq_div_mul, Nat.pow_succ])
            go_wp2
            go_roundg (i % 8 - (j + 1))
            case measure => omega
            case rel => exact ⟨j + 1, c / 2, by simp, by simp, by omega, by omega, ⟨HC2.out⟩, rfl, rfl⟩
          · have c5 : ¬ (j : Int) < (i : Int) % 8 := by omega
            have e8 := bit_of s i c (by omega) (by rw [HC.out, show j = i % 8 from by omega])
            have hm := R.c0
            obtain ⟨h3, hB3⟩ := R.set i (hasB s i)
            have hfz := R.row.frozenAt i
            rw [← add_zero g i] at hfz
            have hold := R.bit i hil
            rw [← HAG.out] at hm hfz h3 hB3 hold
            have H3 := Lib.hid (h3.congr (k := fun j => decide (j < i + 1) && hasB s j) (fun j _ => by
              by_cases e : j = i
              · subst e
                simp
              · rw [if_neg e]
                have : decide (j < i + 1) = decide (j < i) := decide_eq_decide.2 (by omega)
                rw [this]))
            have HB3 := Lib.hid (hB.trans hB3)
            clear h3 hB3 R
            have c3 : ((i : Int)).toNat = i := by omega
            have c4 : (0 : Int) ≤ (i : Int) := by omega
            go_wp2
            go_roundg (n - (i + 1))
            case measure => omega
            case rel => exact ⟨i + 1, by simp, by omega, H3.out, HB3.out, rfl⟩
      · have c2 : ¬ (i : Int) / 8 < (s.size : Int) := by omega
        have R2 := R.congr (k := hasB s) (fun j hj => by
          by_cases e : j < i
          · simp [e]
          · rw [decide_eq_false e, Bool.false_and]
            rw [hasB_eq, decide_eq_false (by omega), Bool.false_and])
        clear R
        have HBY := Lib.hid (refBytes_calls wr _ q g cap n (hasB s) R2 h2)
        by_cases hok : OfOk s n
        · have HP := packT_ok hok
          rw [HP] at HBY
          clear HP
          go_wp2_with (go_at_call 39; refine HBY.out.mono ?_; rintro e w2 ⟨rfl, hB2⟩)
          go_ret2
          exact .inl ⟨hok, q, g, cap, rfl, R2.keepB hB2, hB.trans (hB2.mono hB.size)⟩
        · have HP := packT_no hok
          generalize packT (hasB s) ((n + 7) / 8) n = t at *
          have HPd : (t.toList == s.toList) = false := by rw [str_beq, decide_eq_false HP]
          go_wp2_with (go_at_call 39; refine HBY.out.mono ?_; rintro e w2 ⟨rfl, hB2⟩)
          go_ret2
          exact .inr ⟨hok, rfl, hB.trans (hB2.mono hB.size)⟩
    · have c1 : ¬ (i : Int) < (n : Int) := by omega
      have R2 := R.congr (k := hasB s) (fun j hj => by
        by_cases e : j < i
        · simp [e]
        · rw [decide_eq_false e, Bool.false_and]
          rw [hasB_eq, decide_eq_false (by omega), Bool.false_and])
      clear R
      have HBY := Lib.hid (refBytes_calls wr _ q g cap n (hasB s) R2 h2)
      by_cases hok : OfOk s n
      · have HP := packT_ok hok
        rw [HP] at HBY
        clear HP
        go_wp2_with (go_at_call 39; refine HBY.out.mono ?_; rintro e w2 ⟨rfl, hB2⟩)
        go_ret2
        exact .inl ⟨hok, q, g, cap, rfl, R2.keepB hB2, hB.trans (hB2.mono hB.size)⟩
      · have HP := packT_no hok
        generalize packT (hasB s) ((n + 7) / 8) n = t at *
        have HPd : (t.toList == s.toList) = false := by rw [str_beq, decide_eq_false HP]
        go_wp2_with (go_at_call 39; refine HBY.out.mono ?_; rintro e w2 ⟨rfl, hB2⟩)
        go_ret2
        exact .inr ⟨hok, rfl, hB.trans (hB2.mono hB.size)⟩
end Go.Proofs.Ytidnkckfkgaooaa.Al
