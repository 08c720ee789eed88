/- More of Put and Get, and of how many bits are set: what the outright statements ask. -/
import Derived.Test.YtidnkckfkgaooaaBitsD
namespace Go.Proofs.Ytidnkckfkgaooaa.Pure
open Go.RowKit Go.Proofs.Ytidnkckfkgaooaa.Q Go.Proofs.Ytidnkckfkgaooaa.Ext Go.Proofs.YtidnkckfkgaooaaW.PrintWords Go.Proofs.YtidnkckfkgaooaaW.PrintLast Go.Proofs.YtidnkckfkgaooaaW.PrintMore

theorem putGo_length : ∀ (d : Nat) (n : Int) (acc : List Int), (putGo d n acc).length = acc.length + d := by
  intro d
  induction d with
  | zero => intro n acc; rfl
  | succ d ih => intro n acc; simp only [putGo]; rw [ih, List.length_append]; simp; omega
theorem putGo_get : ∀ (d n : Nat) (acc : List Int) (q : Nat) (h : q < (putGo d (n : Int) acc).length), (putGo d (n : Int) acc)[q] = if h2 : q < acc.length then acc[q] else ((n / 256 ^ (q - acc.length) % 256 : Nat) : Int) := by
  intro d
  induction d with
  | zero =>
    intro n acc q h
    have h' : q < acc.length := h
    rw [dif_pos h']
    rfl
  | succ d ih =>
    intro n acc q h
    have e : (n : Int) / 256 = ((n / 256 : Nat) : Int) := by omega
    have h' : q < (putGo d ((n / 256 : Nat) : Int) (acc ++ [(n : Int) % 256])).length := by
      rw [putGo_length] at h ⊢
      simp
      omega
    have g := ih (n / 256) (acc ++ [(n : Int) % 256]) q h'
    have e2 : (putGo (d + 1) (n : Int) acc)[q] = (putGo d ((n / 256 : Nat) : Int) (acc ++ [(n : Int) % 256]))[q] := by
      simp only [putGo, e]
    refine e2.trans (g.trans ?_)
    by_cases h1 : q < acc.length
    · rw [dif_pos h1, dif_pos (by simp; omega), List.getElem_append_left h1]
    · rw [dif_neg h1]
      by_cases h3 : q = acc.length
      · subst h3
        rw [dif_pos (by simp)]
        simp
      · rw [dif_neg (by simp; omega), List.length_append]
        simp only [List.length_cons, List.length_nil]
        rw [Nat.div_div_eq_div_mul, show q - acc.length = (q - (acc.length + (0 + 1))) + 1 from by omega, Nat.pow_succ, Nat.mul_comm 256]

theorem valFrom_put (s : ByteArray) (n d : Nat) (h : ∀ q, q < d → byteN s q = n / 256 ^ q % 256) : ∀ e q, q + e = d → valFrom s e q = n / 256 ^ q % 256 ^ e := by
  intro e
  induction e with
  | zero => intro q _; simp [valFrom, Nat.mod_one]
  | succ e ih =>
    intro q hq
    simp only [valFrom]
    rw [ih (q + 1) (by omega), h q (by omega), Nat.pow_succ 256 q, ← Nat.div_div_eq_div_mul, Nat.pow_succ, Nat.mul_comm (256 ^ e) 256, Nat.mod_mul]

theorem get_put (n : Nat) (d : Nat) (h1 : 1 ≤ d) (h8 : d ≤ 8) : getN (putS (n : Int) (d : Int)) = n % 256 ^ d ∧ (putS (n : Int) (d : Int)).size = d := by
  have e : putS (n : Int) (d : Int) = strOfNums (putGo d (n : Int) []) := by
    unfold putS
    rw [if_pos (by omega), Int.toNat_natCast]
  have hl : (putGo d (n : Int) []).length = d := by rw [putGo_length]; simp
  have hs : (putS (n : Int) (d : Int)).size = d := by rw [e, strOfNums_size, hl]
  refine ⟨?_, hs⟩
  unfold getN
  rw [hs, show min d 8 = d from by omega, valFrom_put _ n d ?_ d 0 (by omega)]
  · simp
  · intro q hq
    rw [e, byteN_nums _ _ (by rw [hl]; exact hq), putGo_get, dif_neg (by simp)]
    show ((n / 256 ^ (q - 0) % 256 : Nat) : Int).toNat % 256 = _
    rw [Int.toNat_natCast, Nat.sub_zero, Nat.mod_mod]

theorem countTo_one (u v : ByteArray) (i : Nat) (h : ∀ j, hasB u j = if j = i then true else hasB v j) (h0 : hasB v i = false) : ∀ n, countTo u n = countTo v n + if i < n then 1 else 0 := by
  intro n
  induction n with
  | zero => rfl
  | succ n ih =>
    simp only [countTo]
    rw [ih, h n]
    by_cases e : n = i
    · subst e
      rw [if_pos rfl, h0]
      simp
    · rw [if_neg e]
      by_cases hlt : i < n
      · rw [if_pos hlt, if_pos (show i < n + 1 by omega)]
        omega
      · rw [if_neg hlt, if_neg (show ¬ i < n + 1 by omega)]
        omega

theorem hasI_nat (s : ByteArray) (j : Nat) : hasI s (j : Int) = hasB s j := by
  unfold hasI
  rw [decide_eq_true (by omega), Bool.true_and, Int.toNat_natCast]

theorem withI_in (s : ByteArray) (i : Nat) (on : Bool) (h : i < 8 * s.size) : withI s (i : Int) on = withS s i on := by
  unfold withI thereB
  rw [Int.toNat_natCast, if_pos ⟨by omega, decide_eq_true h⟩]
theorem withI_out (s : ByteArray) (i : Nat) (on : Bool) (h : 8 * s.size ≤ i) : withI s (i : Int) on = s := by
  unfold withI thereB
  rw [Int.toNat_natCast, if_neg]
  intro z
  have := z.2
  rw [decide_eq_true_eq] at this
  omega

end Go.Proofs.Ytidnkckfkgaooaa.Pure
