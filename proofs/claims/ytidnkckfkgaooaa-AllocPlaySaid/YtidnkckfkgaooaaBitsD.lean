/- What Put and Get, and those of the reference, come to; the chapter's examples. -/
import Derived.Test.YtidnkckfkgaooaaBitsC
namespace Go.Proofs.Ytidnkckfkgaooaa.Pure
open Go.RowKit Go.Proofs.Ytidnkckfkgaooaa.Q Go.Proofs.Ytidnkckfkgaooaa.Ext Go.Proofs.YtidnkckfkgaooaaW.PrintWords Go.Proofs.YtidnkckfkgaooaaW.PrintLast Go.Proofs.YtidnkckfkgaooaaW.PrintMore

theorem put_ok (n size : Int) (h0 : 0 ≤ n) (h1 : n < 18446744073709551616) : bits_Put.f n size = some (putS n size) := by
  unfold bits_Put.f
  rw [if_pos ⟨h0, h1⟩]

theorem refPut_loop (size : Int) (hs8 : size ≤ 8) (d : Nat) : ∀ (j : Nat) (n : Int) (acc : List Int), (j : Int) + d = size → acc.length = j → 0 ≤ n → n < 18446744073709551616 →
    Ev (fun k => lighterref02_Put.l0 k n size acc (j : Int)) (strOfNums (putGo d n acc)) := by
  induction d with
  | zero =>
    intro j n acc hj ha _ _
    refine ⟨1, fun k hk => ?_⟩
    obtain ⟨k, rfl⟩ : ∃ m, k = m + 1 := ⟨k - 1, by omega⟩
    show lighterref02_Put.l0 (k + 1) _ _ _ _ = _
    simp only [lighterref02_Put.l0, putGo]
    rw [if_neg (by omega)]
  | succ d ih =>
    intro j n acc hj ha h0 h1
    obtain ⟨K, hK⟩ := ih (j + 1) (n / 256) (acc ++ [n % 256]) (by omega) (by simp; omega) (by omega) (by omega)
    refine ⟨K + 1, fun k hk => ?_⟩
    obtain ⟨k, rfl⟩ : ∃ m, k = m + 1 := ⟨k - 1, by omega⟩
    have h := hK k (by omega)
    simp only at h
    show lighterref02_Put.l0 (k + 1) _ _ _ _ = _
    simp only [lighterref02_Put.l0, putGo]
    rw [if_pos (by omega), if_pos (by omega), if_pos (by omega), Int.tdiv_eq_ediv_of_nonneg h0, Int.tmod_eq_emod_of_nonneg h0, u64_id (a := n / 256) (by omega) (by omega), wrap_succ j (by omega), show n % 256 % 256 = n % 256 from by omega]
    exact h

theorem refPut_ok (n size : Int) (h0 : 0 ≤ n) (h1 : n < 18446744073709551616) : Ev (fun k => lighterref02_Put.f k n size) (putS n size) := by
  unfold putS
  by_cases h : 1 ≤ size ∧ size ≤ 8
  · rw [if_pos h]
    exact refPut_loop size h.2 size.toNat 0 n [] (by omega) rfl h0 h1
  · rw [if_neg h]
    refine ⟨1, fun k hk => ?_⟩
    obtain ⟨k, rfl⟩ : ∃ m, k = m + 1 := ⟨k - 1, by omega⟩
    show lighterref02_Put.l0 (k + 1) _ _ _ _ = _
    simp only [lighterref02_Put.l0]
    by_cases h2 : 0 < size
    · rw [if_pos h2, if_neg (by omega)]
      rfl
    · rw [if_neg h2]
      rfl

/-- The number of bytes from one on, the lowest first. -/
def valFrom (s : ByteArray) : Nat → Nat → Nat
  | 0, _ => 0
  | d + 1, q => byteN s q + 256 * valFrom s d (q + 1)
theorem valFrom_lt (s : ByteArray) : ∀ (d q : Nat), valFrom s d q < 256 ^ d := by
  intro d
  induction d with
  | zero => intro q; simp [valFrom]
  | succ d ih =>
    intro q
    have := ih (q + 1)
    have := byteN_lt s q
    rw [Nat.pow_succ]
    simp only [valFrom]
    omega
theorem valFrom_snoc (s : ByteArray) : ∀ (d q : Nat), valFrom s (d + 1) q = valFrom s d q + 256 ^ d * byteN s (q + d) := by
  intro d
  induction d with
  | zero => intro q; simp [valFrom]
  | succ d ih =>
    intro q
    rw [valFrom, ih (q + 1), valFrom, Nat.pow_succ, show q + 1 + d = q + (d + 1) from by omega, Nat.mul_add, ← Nat.mul_assoc, Nat.mul_comm 256 (256 ^ d)]
    omega

/-- What Get answers. -/
def getN (s : ByteArray) : Nat := valFrom s (min s.size 8) 0
theorem pow8 (d : Nat) (h : d ≤ 8) : 256 ^ d ≤ 18446744073709551616 := by
  have : 256 ^ d ≤ 256 ^ 8 := Nat.pow_le_pow_right (by decide) h
  simpa using this
theorem getN_lt (s : ByteArray) : getN s < 18446744073709551616 := Nat.lt_of_lt_of_le (valFrom_lt s _ 0) (pow8 _ (by omega))

theorem get_loop (s : ByteArray) (m : Nat) (hm : m ≤ s.size) (hm8 : m ≤ 8) : ∀ q : Nat, q ≤ m →
    Ev (fun k => bits_Get.l0 k s (valFrom s (m - q) q : Int) ((q : Int) - 1)) (valFrom s m 0 : Int) := by
  intro q
  induction q with
  | zero =>
    intro _
    refine ⟨1, fun k hk => ?_⟩
    obtain ⟨k, rfl⟩ : ∃ m, k = m + 1 := ⟨k - 1, by omega⟩
    show bits_Get.l0 (k + 1) _ _ _ = _
    simp only [bits_Get.l0]
    rw [if_neg (by omega), Nat.sub_zero]
  | succ q ih =>
    intro hq
    obtain ⟨K, hK⟩ := ih (by omega)
    refine ⟨K + 1, fun k hk => ?_⟩
    obtain ⟨k, rfl⟩ : ∃ m, k = m + 1 := ⟨k - 1, by omega⟩
    have h := hK k (by omega)
    simp only at h
    have hv := valFrom_lt s (m - (q + 1)) (q + 1)
    have hp : 256 ^ (m - (q + 1)) ≤ 72057594037927936 := by
      have : 256 ^ (m - (q + 1)) ≤ 256 ^ 7 := Nat.pow_le_pow_right (by decide) (by omega)
      simpa using this
    have hb := byteN_lt s q
    have e1 : ((q + 1 : Nat) : Int) - 1 = (q : Int) := by omega
    show bits_Get.l0 (k + 1) _ _ _ = _
    simp only [bits_Get.l0]
    rw [e1, if_pos (by omega), if_pos (by omega), if_pos (by omega), bt_byteN, u64_id (a := (byteN s q : Int)) (by omega) (by omega), u64_id (a := (valFrom s (m - (q + 1)) (q + 1) : Int) * 256) (by omega) (by omega)]
    have e2 : (valFrom s (m - (q + 1)) (q + 1) : Int) * 256 = ((valFrom s (m - (q + 1)) (q + 1) * 256 : Nat) : Int) := by omega
    rw [e2, u64_or_nat _ _ (by omega) (by omega), nat_join 8 _ _ (by rw [show (2 : Nat) ^ 8 = 256 from rfl]; omega) (by rw [show (2 : Nat) ^ 8 = 256 from rfl]; exact hb), wrap64_id (by unfold I64; omega)]
    have e3 : valFrom s (m - (q + 1)) (q + 1) * 256 + byteN s q = valFrom s (m - q) q := by
      rw [show m - q = (m - (q + 1)) + 1 from by omega, valFrom]
      omega
    rw [e3]
    exact h

theorem get_ok (s : ByteArray) (hs : s.size ≤ 1048576) : Ev (fun k => bits_Get.f k s) (getN s : Int) := by
  have h := get_loop s (min s.size 8) (by omega) (by omega) (min s.size 8) (Nat.le_refl _)
  have e : mn (s.size : Int) 8 - 1 = ((min s.size 8 : Nat) : Int) - 1 := by unfold mn; split <;> omega
  rw [Nat.sub_self] at h
  refine Ev.congr (fun k => ?_) h
  show bits_Get.f k s = _
  unfold bits_Get.f
  rw [e]
  rfl

theorem refGet_loop (s : ByteArray) (hs : s.size ≤ 1048576) (d : Nat) : ∀ (q : Nat) (wt : Int), q + d = min s.size 8 → (q < 8 → wt = ((256 ^ q : Nat) : Int)) →
    Ev (fun k => lighterref02_Get.l0 k s (valFrom s q 0 : Int) wt (q : Int)) (getN s : Int) := by
  induction d with
  | zero =>
    intro q wt hq hw
    obtain rfl : q = min s.size 8 := by omega
    refine ⟨1, fun k hk => ?_⟩
    obtain ⟨k, rfl⟩ : ∃ m, k = m + 1 := ⟨k - 1, by omega⟩
    show lighterref02_Get.l0 (k + 1) _ _ _ _ = _
    simp only [lighterref02_Get.l0]
    by_cases h1 : ((min s.size 8 : Nat) : Int) < (s.size : Int)
    · rw [if_pos h1, if_neg (by omega)]
      rfl
    · rw [if_neg h1]
      rfl
  | succ d ih =>
    intro q wt hq hw
    have hw' := hw (by omega)
    have ev := valFrom_snoc s q 0
    rw [Nat.zero_add] at ev
    have hv := valFrom_lt s (q + 1) 0
    have hp := pow8 (q + 1) (by omega)
    have hb := byteN_lt s q
    have hpq : 256 ^ (q + 1) = 256 ^ q * 256 := Nat.pow_succ ..
    obtain ⟨K, hK⟩ := ih (q + 1) (IntKind.u64.wrap (wt * 256)) (by omega) (fun h8 => by
      have : 256 ^ (q + 1) ≤ 256 ^ 7 := Nat.pow_le_pow_right (by decide) (by omega)
      have h7 : (256 : Nat) ^ 7 = 72057594037927936 := by decide
      rw [hw', u64_id (by omega) (by omega)]
      omega)
    refine ⟨K + 1, fun k hk => ?_⟩
    obtain ⟨k, rfl⟩ : ∃ m, k = m + 1 := ⟨k - 1, by omega⟩
    have h := hK k (by omega)
    simp only at h
    show lighterref02_Get.l0 (k + 1) _ _ _ _ = _
    simp only [lighterref02_Get.l0]
    have hm : (256 ^ q * byteN s q : Nat) < 18446744073709551616 := by omega
    have em : wt * (byteN s q : Int) = ((256 ^ q * byteN s q : Nat) : Int) := by rw [hw', Int.natCast_mul]
    rw [if_pos (by omega), if_pos (by omega), if_pos (by omega), bt_byteN, u64_id (a := (byteN s q : Int)) (by omega) (by omega), em, u64_id (a := ((256 ^ q * byteN s q : Nat) : Int)) (by omega) (by omega), u64_id (a := (valFrom s q 0 : Int) + ((256 ^ q * byteN s q : Nat) : Int)) (by omega) (by omega), wrap_succ q (by omega),
      show (valFrom s q 0 : Int) + ((256 ^ q * byteN s q : Nat) : Int) = ((valFrom s (q + 1) 0 : Nat) : Int) from by rw [ev]; omega]
    exact h

theorem refGet_ok (s : ByteArray) (hs : s.size ≤ 1048576) : Ev (fun k => lighterref02_Get.f k s) (getN s : Int) :=
  refGet_loop s hs (min s.size 8) 0 1 (by omega) (fun _ => rfl)

theorem shown_ok : Ev (fun k => lighterlaw02_shown.f k) true :=
  Ev.of lighterlaw02_shown.mono (k := 12) (by decide +kernel)

theorem shown_bind : Ev (fun k => (lighterlaw02_shown.f k).bind fun t => some t) true := by
  obtain ⟨K, hK⟩ := shown_ok
  refine ⟨K, fun k hk => ?_⟩
  have h := hK k hk
  simp only at h
  show (lighterlaw02_shown.f k).bind _ = _
  rw [h]; rfl

end Go.Proofs.Ytidnkckfkgaooaa.Pure
