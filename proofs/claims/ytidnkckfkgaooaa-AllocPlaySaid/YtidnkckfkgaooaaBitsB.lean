/- What With, Count and Run, and those of the reference, come to. -/
import Derived.Test.YtidnkckfkgaooaaBitsA
namespace Go.Proofs.Ytidnkckfkgaooaa.Pure
open Go.RowKit Go.Proofs.Ytidnkckfkgaooaa.Q Go.Proofs.Ytidnkckfkgaooaa.Ext Go.Proofs.YtidnkckfkgaooaaW.PrintWords Go.Proofs.YtidnkckfkgaooaaW.PrintLast Go.Proofs.YtidnkckfkgaooaaW.PrintMore

/-- A byte with a bit set, or clear. -/
def setN (b r : Nat) (on : Bool) : Nat := if on then b ||| 2 ^ r else b &&& (255 - 2 ^ r)

theorem setN_lt (b r : Nat) (on : Bool) (hb : b < 256) (hr : r < 8) : setN b r on < 256 := by
  unfold setN
  split
  · have : (2 : Nat) ^ r < 2 ^ 8 := Nat.pow_lt_pow_right (by decide) hr
    exact Nat.or_lt_two_pow (n := 8) hb this
  · exact Nat.lt_of_le_of_lt Nat.and_le_left hb

theorem setN_bit (b r j : Nat) (on : Bool) (hr : r < 8) (hj : j < 8) : (setN b r on).testBit j = if j = r then on else b.testBit j := by
  unfold setN
  cases on with
  | true =>
    rw [if_pos rfl, Nat.testBit_or, Nat.testBit_two_pow]
    by_cases h : j = r
    · simp [h]
    · rw [if_neg h]
      simp [Ne.symm h]
  | false =>
    rw [if_neg (by simp), Nat.testBit_and]
    have e : 255 - 2 ^ r = 2 ^ 8 - (2 ^ r + 1) := by omega
    have hp : (2 : Nat) ^ r < 2 ^ 8 := Nat.pow_lt_pow_right (by decide) hr
    rw [e, Nat.testBit_two_pow_sub_succ hp, Nat.testBit_two_pow]
    by_cases h : j = r
    · simp [h]
    · rw [if_neg h]
      simp [Ne.symm h, hj]

theorem setN_op (b r : Nat) (on : Bool) (hb : b < 256) (hr : r < 8) : Go.bits (if on then BinOp.or else BinOp.andNot) .u8 (b : Int) (2 ^ r % 256) = (setN b r on : Int) := by
  have hp : (2 : Nat) ^ r < 256 := by
    have : (2 : Nat) ^ r < 2 ^ 8 := Nat.pow_lt_pow_right (by decide) hr
    simpa using this
  have e : (2 : Int) ^ r % 256 = ((2 ^ r : Nat) : Int) := by
    have e0 : (2 : Int) ^ r = ((2 ^ r : Nat) : Int) := by rw [Int.natCast_pow]; rfl
    rw [e0]
    generalize (2 ^ r : Nat) = p at hp
    omega
  rw [e]
  unfold setN
  cases on with
  | true => rw [if_pos rfl, if_pos rfl, u8_or_nat _ _ hb hp]
  | false => rw [if_neg (by simp), if_neg (by simp), u8_andNot_nat _ _ hb hp]

theorem nums_data (s : ByteArray) : Ext.nums s = s.data.toList.map fun b => (b.toNat : Int) := rfl

theorem withS_size (s : ByteArray) (i : Nat) (on : Bool) : (withS s i on).size = s.size := by
  unfold withS
  rw [strOfNums_size, List.length_set, Ext.nums_length]

theorem byteN_nums (l : List Int) (q : Nat) (h : q < l.length) : byteN (strOfNums l) q = l[q].toNat % 256 := by
  unfold byteN
  rw [strOfNums_data, List.getD, List.getElem?_map, List.getElem?_eq_getElem h]
  simp

theorem withS_byte (s : ByteArray) (i q : Nat) (on : Bool) (hq : q < s.size) :
    byteN (withS s i on) q = if q = i / 8 then setN (byteN s q) (i % 8) on else byteN s q := by
  unfold withS
  have hb := byteN_lt s (i / 8)
  rw [show (i : Int) / 8 = ((i / 8 : Nat) : Int) from by omega, bt_byteN, setN_op _ _ _ hb (by omega), byteN_nums _ _ (by rw [List.length_set, Ext.nums_length]; exact hq), List.getElem_set]
  by_cases h : i / 8 = q
  · rw [if_pos h, if_pos h.symm, h]
    have := setN_lt (byteN s q) (i % 8) on (byteN_lt s q) (by omega)
    omega
  · rw [if_neg h, if_neg (fun e => h e.symm)]
    have e : (Ext.nums s)[q]'(by rw [Ext.nums_length]; exact hq) = (byteN s q : Int) := by
      have := Ext.nums_get s q hq
      rw [bt_byteN, List.getD, List.getElem?_eq_getElem (by rw [Ext.nums_length]; exact hq)] at this
      exact this
    rw [e]
    have := byteN_lt s q
    omega

theorem withS_bit (s : ByteArray) (i j : Nat) (on : Bool) (hi : i < 8 * s.size) : hasB (withS s i on) j = if j = i then on else hasB s j := by
  rw [hasB_eq, hasB_eq, withS_size]
  by_cases hj : j < 8 * s.size
  · rw [decide_eq_true hj, Bool.true_and, Bool.true_and, withS_byte s i (j / 8) on (by omega)]
    by_cases h : j / 8 = i / 8
    · rw [if_pos h, setN_bit _ _ _ _ (by omega) (by omega)]
      by_cases h2 : j = i
      · subst h2; simp
      · rw [if_neg h2, if_neg (by omega)]
    · rw [if_neg h, if_neg (by omega)]
  · rw [decide_eq_false hj, if_neg (by omega)]
    rfl

/-- What With answers. -/
def withI (s : ByteArray) (i : Int) (on : Bool) : ByteArray := if 0 ≤ i ∧ thereB s i.toNat = true then withS s i.toNat on else s
theorem with_ok (s : ByteArray) (i : Int) (on : Bool) (hi : I64 i) : bits_With.f s i on = some (withI s i on) := by
  unfold bits_With.f withI
  unfold I64 at hi
  rw [if_pos (by omega)]
theorem withI_size (s : ByteArray) (i : Int) (on : Bool) : (withI s i on).size = s.size := by
  unfold withI
  split
  · exact withS_size _ _ _
  · rfl
theorem withI_bit (s : ByteArray) (i : Int) (j : Nat) (on : Bool) (hj : j < 8 * s.size) : hasB (withI s i on) j = if (j : Int) = i then on else hasB s j := by
  unfold withI thereB
  by_cases h : 0 ≤ i ∧ decide (i.toNat < 8 * s.size) = true
  · rw [if_pos h, withS_bit s i.toNat j on (by simpa using h.2)]
    by_cases e : (j : Int) = i
    · rw [if_pos e, if_pos (by omega)]
    · rw [if_neg e, if_neg (by omega)]
  · rw [if_neg h, if_neg]
    intro e
    apply h
    refine ⟨by omega, ?_⟩
    rw [decide_eq_true_eq]
    omega

/-- One byte of the reference's With: weight by weight. -/
def wfold (g : Nat → Bool) : Nat → Int → Int → Nat → Int
  | 0, c, _, _ => c
  | d + 1, c, wt, j => wfold g d (if g j = true then (c + wt) % 256 else c) (wt * 2 % 256) (j + 1)

theorem wfold_bits (g : Nat → Bool) : ∀ (d j c : Nat), j + d = 8 → c < 2 ^ j → (∀ m, m < j → c.testBit m = g m) →
    ∃ r : Nat, wfold g d (c : Int) ((2 ^ j % 256 : Nat) : Int) j = (r : Int) ∧ r < 256 ∧ ∀ m, m < 8 → r.testBit m = g m := by
  intro d
  induction d with
  | zero =>
    intro j c hj hc hb
    obtain rfl : j = 8 := by omega
    exact ⟨c, rfl, hc, hb⟩
  | succ d ih =>
    intro j c hj hc hb
    have hp : (2 : Nat) ^ j < 256 := by
      have : (2 : Nat) ^ j < 2 ^ 8 := Nat.pow_lt_pow_right (by decide) (by omega)
      simpa using this
    have hp2 : (2 : Nat) ^ (j + 1) = 2 ^ j * 2 := Nat.pow_succ ..
    have hp3 : (2 : Nat) ^ (j + 1) ≤ 256 := by
      have : (2 : Nat) ^ (j + 1) ≤ 2 ^ 8 := Nat.pow_le_pow_right (by decide) (by omega)
      simpa using this
    have ew : ((2 ^ j % 256 : Nat) : Int) * 2 % 256 = ((2 ^ (j + 1) % 256 : Nat) : Int) := by rw [hp2]; omega
    simp only [wfold]
    rw [ew]
    by_cases hg : g j = true
    · rw [if_pos hg, show ((c : Int) + ((2 ^ j % 256 : Nat) : Int)) % 256 = ((2 ^ j + c : Nat) : Int) from by omega]
      refine ih (j + 1) (2 ^ j + c) (by omega) (by omega) (fun m hm => ?_)
      by_cases e : m = j
      · subst e
        rw [Nat.testBit_two_pow_add_eq, Nat.testBit_lt_two_pow hc, hg]
        rfl
      · rw [Nat.testBit_two_pow_add_gt (by omega), hb m (by omega)]
    · rw [if_neg hg]
      refine ih (j + 1) c (by omega) (by omega) (fun m hm => ?_)
      by_cases e : m = j
      · subst e
        rw [Nat.testBit_lt_two_pow hc]
        simpa using hg
      · exact hb m (by omega)

theorem refWith_inner (s : ByteArray) (i : Int) (on : Bool) (acc : List Int) (q : Nat) (hs : s.size ≤ 1048576) (hq : q < s.size) (ha : acc.length ≤ 1048576) (r : ByteArray) (d : Nat) : ∀ (j : Nat) (c wt : Int), j + d = 8 →
    Ev (fun k => lighterref02_With.l0 k s i on (acc ++ [wfold (fun j => if i = ((8 * q + j : Nat) : Int) then on else hasB s (8 * q + j)) d c wt j]) ((q + 1 : Nat) : Int)) r →
    Ev (fun k => lighterref02_With.l1 k s i on acc (q : Int) c wt (j : Int)) r := by
  induction d with
  | zero =>
    intro j c wt hj h
    obtain rfl : j = 8 := by omega
    obtain ⟨K, hK⟩ := h
    refine ⟨K + 1, fun k hk => ?_⟩
    obtain ⟨k, rfl⟩ : ∃ m, k = m + 1 := ⟨k - 1, by omega⟩
    have h := hK k (by omega)
    simp only at h
    show lighterref02_With.l1 (k + 1) _ _ _ _ _ _ _ _ = _
    simp only [lighterref02_With.l1]
    rw [if_neg (by decide), if_pos (by omega), wrap_succ q (by omega)]
    exact h
  | succ d ih =>
    intro j c wt hj h
    obtain ⟨K, hK⟩ := ih (j + 1) (if (if i = ((8 * q + j : Nat) : Int) then on else hasB s (8 * q + j)) = true then (c + wt) % 256 else c) (wt * 2 % 256) (by omega) h
    obtain ⟨K2, hK2⟩ := refHas_ok s ((8 * q + j : Nat) : Int) (by omega) (by unfold I64; omega)
    refine ⟨K + K2 + 1, fun k hk => ?_⟩
    obtain ⟨k, rfl⟩ : ∃ m, k = m + 1 := ⟨k - 1, by omega⟩
    have h1 := hK k (by omega)
    have h2 := hK2 k (by omega)
    simp only at h1 h2
    have e1 : wrap64 (wrap64 (8 * (q : Int)) + (j : Int)) = ((8 * q + j : Nat) : Int) := by
      rw [wrap64_id (a := 8 * (q : Int)) (by unfold I64; omega), wrap64_id (by unfold I64; omega)]
      omega
    have e2 : hasI s ((8 * q + j : Nat) : Int) = hasB s (8 * q + j) := by
      unfold hasI
      rw [decide_eq_true (by omega), Bool.true_and, Int.toNat_natCast]
    show lighterref02_With.l1 (k + 1) _ _ _ _ _ _ _ _ = _
    simp only [lighterref02_With.l1]
    rw [if_pos (by omega), e1, h2, Option.bind_some, e2, wrap_succ j (by omega)]
    by_cases hi : i = ((8 * q + j : Nat) : Int)
    · rw [if_pos hi]
      rw [if_pos hi] at h1
      by_cases ho : on = true
      · rw [if_pos ho]
        rw [if_pos ho] at h1
        exact h1
      · rw [if_neg ho]
        rw [if_neg ho] at h1
        exact h1
    · rw [if_neg hi]
      rw [if_neg hi] at h1
      by_cases ho : hasB s (8 * q + j) = true
      · rw [if_pos ho]
        rw [if_pos ho] at h1
        exact h1
      · rw [if_neg ho]
        rw [if_neg ho] at h1
        exact h1

/-- The bytes of the reference's With. -/
def refBytes (s : ByteArray) (i : Int) (on : Bool) (n : Nat) : List Int := (List.range n).map fun q => wfold (fun j => if i = ((8 * q + j : Nat) : Int) then on else hasB s (8 * q + j)) 8 0 1 0

theorem refWith_outer (s : ByteArray) (i : Int) (on : Bool) (hs : s.size ≤ 1048576) (d : Nat) : ∀ q : Nat, q + d = s.size →
    Ev (fun k => lighterref02_With.l0 k s i on (refBytes s i on q) (q : Int)) (strOfNums (refBytes s i on s.size)) := by
  induction d with
  | zero =>
    intro q hq
    obtain rfl : q = s.size := by omega
    refine ⟨1, fun k hk => ?_⟩
    obtain ⟨k, rfl⟩ : ∃ m, k = m + 1 := ⟨k - 1, by omega⟩
    show lighterref02_With.l0 (k + 1) _ _ _ _ _ = _
    simp only [lighterref02_With.l0]
    rw [if_neg (by omega)]
  | succ d ih =>
    intro q hq
    have hlen : (refBytes s i on q).length = q := by simp [refBytes]
    have e : refBytes s i on q ++ [wfold (fun j => if i = ((8 * q + j : Nat) : Int) then on else hasB s (8 * q + j)) 8 0 1 0] = refBytes s i on (q + 1) := by
      unfold refBytes
      rw [List.range_succ, List.map_append]
      rfl
    have h := ih (q + 1) (by omega)
    rw [← e] at h
    obtain ⟨K, hK⟩ := refWith_inner s i on (refBytes s i on q) q hs (by omega) (by omega) _ 8 0 0 1 rfl h
    refine ⟨K + 1, fun k hk => ?_⟩
    obtain ⟨k, rfl⟩ : ∃ m, k = m + 1 := ⟨k - 1, by omega⟩
    have h := hK k (by omega)
    simp only at h
    show lighterref02_With.l0 (k + 1) _ _ _ _ _ = _
    simp only [lighterref02_With.l0]
    rw [if_pos (by omega)]
    exact h

theorem refWith_ok (s : ByteArray) (i : Int) (on : Bool) (hs : s.size ≤ 1048576) : Ev (fun k => lighterref02_With.f k s i on) (withI s i on) := by
  have h := refWith_outer s i on hs s.size 0 (by omega)
  have e : strOfNums (refBytes s i on s.size) = withI s i on := by
    have hl : (refBytes s i on s.size).length = s.size := by simp [refBytes]
    apply text_ext
    · rw [strOfNums_size, hl, withI_size]
    · intro j hj
      rw [strOfNums_size, hl] at hj
      rw [withI_bit s i j on hj, hasB_eq, strOfNums_size, hl, decide_eq_true hj, Bool.true_and, byteN_nums _ _ (by rw [hl]; omega)]
      have e1 : (refBytes s i on s.size)[j / 8]'(by rw [hl]; omega) = wfold (fun m => if i = ((8 * (j / 8) + m : Nat) : Int) then on else hasB s (8 * (j / 8) + m)) 8 0 1 0 := by
        unfold refBytes
        simp
      obtain ⟨r, hr, hr2, hr3⟩ := wfold_bits (fun m => if i = ((8 * (j / 8) + m : Nat) : Int) then on else hasB s (8 * (j / 8) + m)) 8 0 0 rfl (by decide) (fun m hm => absurd hm (by omega))
      have hr' : wfold (fun m => if i = ((8 * (j / 8) + m : Nat) : Int) then on else hasB s (8 * (j / 8) + m)) 8 0 1 0 = (r : Int) := hr
      rw [e1, hr', Int.toNat_natCast, Nat.mod_eq_of_lt hr2, hr3 (j % 8) (by omega)]
      have e2 : 8 * (j / 8) + j % 8 = j := by omega
      show (if i = ((8 * (j / 8) + j % 8 : Nat) : Int) then on else hasB s (8 * (j / 8) + j % 8)) = _
      rw [e2]
      by_cases hi : i = (j : Int)
      · rw [if_pos hi, if_pos hi.symm]
      · rw [if_neg hi, if_neg (fun z => hi z.symm)]
  rw [← e]
  exact h

end Go.Proofs.Ytidnkckfkgaooaa.Pure
