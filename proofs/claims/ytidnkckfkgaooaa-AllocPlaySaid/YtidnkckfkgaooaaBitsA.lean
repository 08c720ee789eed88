/- What the functions of package bits, and of its reference, come to, bit by bit. -/
import Derived.Test.YtidnkckfkgaooaaQ3
import Derived.Laws.BitsAllLaws
namespace Go.Proofs.Ytidnkckfkgaooaa.Pure
open Go.RowKit Go.Proofs.Ytidnkckfkgaooaa.Q Go.Proofs.Ytidnkckfkgaooaa.Ext Go.Proofs.YtidnkckfkgaooaaW.PrintWords Go.Proofs.YtidnkckfkgaooaaW.PrintLast Go.Proofs.YtidnkckfkgaooaaW.PrintMore

def I64 (a : Int) : Prop := -9223372036854775808 ≤ a ∧ a ≤ 9223372036854775807
theorem i64_of_wf {a : Int} (h : (Lit.int .i64 a).wf = true) : I64 a := by
  simp only [Lit.wf, IntKind.min, IntKind.max, IntKind.signed, IntKind.bits, Bool.and_eq_true, decide_eq_true_eq, if_true] at h
  unfold I64
  omega
theorem wrap64_id {a : Int} (h : I64 a) : wrap64 a = a := by unfold wrap64 I64 at *; omega
theorem u64_id {a : Int} (h0 : 0 ≤ a) (h1 : a < 18446744073709551616) : IntKind.u64.wrap a = a := by rw [IntKind.wrap_u64]; omega
theorem wrap_succ (i : Nat) (h : i ≤ 9223372036854775806) : wrap64 ((i : Int) + 1) = ((i + 1 : Nat) : Int) := by unfold wrap64; omega

/-- A text's byte. -/
def byteN (s : ByteArray) (q : Nat) : Nat := (s.data.toList.getD q 0).toNat
theorem byteN_lt (s : ByteArray) (q : Nat) : byteN s q < 256 := UInt8.toNat_lt _
theorem bt_byteN (s : ByteArray) (q : Nat) : bt s (q : Int) = (byteN s q : Int) := by
  unfold bt byteN
  by_cases h : q < s.size
  · have h2 : ((q : Int)).toNat = q := by omega
    simp [h2, h, List.getD]
    rfl
  · have h2 : ((q : Int)).toNat = q := by omega
    have h3 : s.data.toList.length ≤ q := by have : s.data.toList.length = s.size := by simp
                                             omega
    rw [List.getD, List.getElem?_eq_none h3]
    simp [h2, h]
theorem hasB_eq (s : ByteArray) (i : Nat) : hasB s i = (decide (i < 8 * s.size) && (byteN s (i / 8)).testBit (i % 8)) := by
  unfold hasB
  rw [bt_byteN, Nat.testBit_eq_decide_div_mod_eq]
  congr 1
  rw [decide_eq_decide]
  have e : ((byteN s (i / 8) : Nat) : Int) / 2 ^ (i % 8) % 2 = ((byteN s (i / 8) / 2 ^ (i % 8) % 2 : Nat) : Int) := by
    rw [Int.natCast_emod, Int.natCast_ediv, Int.natCast_pow]; rfl
  rw [e]
  omega

/-- Two texts whose bits are the same are the same. -/
theorem text_ext {s t : ByteArray} (hl : s.size = t.size) (h : ∀ i, i < 8 * s.size → hasB s i = hasB t i) : s = t := by
  apply ByteArray.ext
  apply Array.toList_inj.1
  have l1 : s.data.toList.length = s.size := by simp
  have l2 : t.data.toList.length = t.size := by simp
  apply List.ext_getElem (by omega)
  intro q h1 h2
  apply UInt8.toNat_inj.1
  have e1 : s.data.toList[q].toNat = byteN s q := by unfold byteN; rw [List.getD, List.getElem?_eq_getElem h1]; rfl
  have e2 : t.data.toList[q].toNat = byteN t q := by unfold byteN; rw [List.getD, List.getElem?_eq_getElem h2]; rfl
  rw [e1, e2]
  apply Nat.eq_of_testBit_eq
  intro j
  by_cases hj : j < 8
  · have := h (8 * q + j) (by omega)
    rw [hasB_eq, hasB_eq, show (8 * q + j) / 8 = q from by omega, show (8 * q + j) % 8 = j from by omega, decide_eq_true (by omega), decide_eq_true (by omega)] at this
    simpa using this
  · have p8 : (256 : Nat) ≤ 2 ^ j := by
      have : (2 : Nat) ^ 8 ≤ 2 ^ j := Nat.pow_le_pow_right (by decide) (by omega)
      simpa using this
    rw [Nat.testBit_lt_two_pow (Nat.lt_of_lt_of_le (byteN_lt s q) p8), Nat.testBit_lt_two_pow (Nat.lt_of_lt_of_le (byteN_lt t q) p8)]

/-- Whether a bit is set, at any place. -/
def hasI (s : ByteArray) (i : Int) : Bool := decide (0 ≤ i) && hasB s i.toNat

theorem has_ok (s : ByteArray) (i : Int) (hs : s.size ≤ 140737488351232) (hi : I64 i) : bits_Has.f s i = some (hasI s i) := by
  unfold bits_Has.f bits_there.f hasI
  unfold I64 at hi
  by_cases h0 : 0 ≤ i
  · obtain ⟨n, rfl⟩ := Int.eq_ofNat_of_zero_le h0
    rw [if_pos h0, Option.bind_some, Int.tdiv_eq_ediv_of_nonneg h0, Int.tmod_eq_emod_of_nonneg h0, wrap64_id (by unfold I64; omega), decide_eq_true h0, Bool.true_and, Int.toNat_natCast, hasB_eq]
    by_cases h1 : n < 8 * s.size
    · have e : (n : Int) / 8 = ((n / 8 : Nat) : Int) := by omega
      rw [decide_eq_true (by omega), if_pos rfl, if_pos (by omega), if_pos (by omega), if_pos (by omega), e, bt_byteN, decide_eq_true h1, Bool.true_and]
      congr 1
      have e2 : shr .u8 (byteN s (n / 8) : Int) ((n : Int) % 8) = ((byteN s (n / 8) / 2 ^ (n % 8) : Nat) : Int) := by
        unfold shr
        rw [show ((n : Int) % 8).toNat = n % 8 from by omega, show min (n % 8) IntKind.u8.bits = n % 8 from by simp only [IntKind.bits]; omega, Int.natCast_ediv, Int.natCast_pow]
        rfl
      have hb := byteN_lt s (n / 8)
      have hd : byteN s (n / 8) / 2 ^ (n % 8) ≤ byteN s (n / 8) := Nat.div_le_self _ _
      rw [e2, show (1 : Int) = ((1 : Nat) : Int) from rfl, u8_and_nat _ _ (by omega) (by decide), nat_mask1, Nat.testBit_eq_decide_div_mod_eq, Bool.eq_iff_iff, beq_iff_eq, decide_eq_true_eq]
      omega
    · rw [decide_eq_false (by omega), if_neg (by simp), decide_eq_false h1]
      rfl
  · rw [if_neg h0, Option.bind_some, if_neg (by simp), decide_eq_false h0]
    rfl

theorem refHas_loop (i b : Nat) (d : Nat) : ∀ (j : Nat) (c : Nat), c < 256 → c = b / 2 ^ j → j + d = i % 8 →
    Ev (fun k => lighterref02_Has.l0 k (i : Int) (c : Int) (j : Int)) (b.testBit (i % 8)) := by
  induction d with
  | zero =>
    intro j c hc he hj
    obtain rfl : j = i % 8 := by omega
    refine ⟨1, fun k hk => ?_⟩
    obtain ⟨k, rfl⟩ : ∃ m, k = m + 1 := ⟨k - 1, by omega⟩
    show lighterref02_Has.l0 (k + 1) _ _ _ = _
    simp only [lighterref02_Has.l0]
    rw [Int.tmod_eq_emod_of_nonneg (by omega), Int.tmod_eq_emod_of_nonneg (by omega), if_neg (by omega), Nat.testBit_eq_decide_div_mod_eq, ← he]
    congr 1
    rw [Bool.eq_iff_iff, beq_iff_eq, decide_eq_true_eq]
    omega
  | succ d ih =>
    intro j c hc he hj
    have e2 : c / 2 = b / 2 ^ (j + 1) := by rw [he, Nat.div_div_eq_div_mul, Nat.pow_succ]
    obtain ⟨K, hK⟩ := ih (j + 1) (c / 2) (by omega) e2 (by omega)
    refine ⟨K + 1, fun k hk => ?_⟩
    obtain ⟨k, rfl⟩ : ∃ m, k = m + 1 := ⟨k - 1, by omega⟩
    have h := hK k (by omega)
    simp only at h
    show lighterref02_Has.l0 (k + 1) _ _ _ = _
    simp only [lighterref02_Has.l0]
    rw [Int.tmod_eq_emod_of_nonneg (by omega), if_pos (by omega), Int.tdiv_eq_ediv_of_nonneg (by omega), wrap_succ j (by omega), show (c : Int) / 2 % 256 = ((c / 2 : Nat) : Int) from by omega]
    exact h

theorem refHas_ok (s : ByteArray) (i : Int) (hs : s.size ≤ 140737488351232) (hi : I64 i) : Ev (fun k => lighterref02_Has.f k s i) (hasI s i) := by
  unfold hasI
  unfold I64 at hi
  by_cases h0 : 0 ≤ i
  · obtain ⟨n, rfl⟩ := Int.eq_ofNat_of_zero_le h0
    rw [decide_eq_true h0, Bool.true_and, Int.toNat_natCast, hasB_eq]
    have e : (n : Int) / 8 = ((n / 8 : Nat) : Int) := by omega
    by_cases h1 : n < 8 * s.size
    · obtain ⟨K, hK⟩ := refHas_loop n (byteN s (n / 8)) (n % 8) 0 (byteN s (n / 8)) (byteN_lt _ _) (by simp) (by omega)
      refine ⟨K + 1, fun k hk => ?_⟩
      obtain ⟨k, rfl⟩ : ∃ m, k = m + 1 := ⟨k - 1, by omega⟩
      have h := hK k (by omega)
      simp only at h
      show lighterref02_Has.f (k + 1) s n = _
      unfold lighterref02_Has.f
      rw [if_neg (by omega), Int.tdiv_eq_ediv_of_nonneg h0, wrap64_id (by unfold I64; omega)]
      simp only [lighterref02_Has.j0]
      rw [if_neg (by simp; omega), Int.tdiv_eq_ediv_of_nonneg h0, wrap64_id (by unfold I64; omega), if_pos (by omega), if_pos (by omega), e, bt_byteN, decide_eq_true h1, Bool.true_and]
      exact h
    · refine ⟨1, fun k hk => ?_⟩
      obtain ⟨k, rfl⟩ : ∃ m, k = m + 1 := ⟨k - 1, by omega⟩
      show lighterref02_Has.f (k + 1) s n = _
      unfold lighterref02_Has.f
      rw [if_neg (by omega), Int.tdiv_eq_ediv_of_nonneg h0, wrap64_id (by unfold I64; omega)]
      simp only [lighterref02_Has.j0]
      rw [if_pos (by simp; omega), decide_eq_false h1]
      rfl
  · refine ⟨1, fun k hk => ?_⟩
    obtain ⟨k, rfl⟩ : ∃ m, k = m + 1 := ⟨k - 1, by omega⟩
    show lighterref02_Has.f (k + 1) s i = _
    unfold lighterref02_Has.f
    rw [if_pos (by omega), decide_eq_false h0]
    simp only [lighterref02_Has.j0]
    rw [if_pos trivial]
    rfl

end Go.Proofs.Ytidnkckfkgaooaa.Pure
