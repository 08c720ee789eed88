/- What the sums of lists come to, and the shares of numbers below 2 to 32. -/
import Derived.Test.YtihlaamcepgipaaNumsA
namespace Go.Proofs.Ytihlaamcepgipaa.Pure
open Go.RowKit Go.Proofs.Ytihlaamcepgipaa.Q Go.Proofs.YtihlaamcepgipaaW.PrintWords Go.Proofs.YtihlaamcepgipaaW.PrintLast Go.Proofs.YtihlaamcepgipaaW.PrintMore

/-- The sum of a list behind a number. -/
def sumGo (n : Int) : List Int → Int × Bool
  | [] => (n, true)
  | m :: l => if (addS n m).2 = true then sumGo (addS n m).1 l else (0, false)

theorem rd_getElem (xs : List Int) (i : Nat) (h : i < xs.length) : rd xs (i : Int) = xs[i] := by
  unfold rd
  rw [Int.toNat_natCast, List.getD_eq_getElem?_getD, List.getElem?_eq_getElem h]; rfl
theorem wrap_succ (i : Nat) (h : i ≤ 9223372036854775806) : wrap64 ((i : Int) + 1) = ((i + 1 : Nat) : Int) := by unfold wrap64; omega

theorem sum_loop (xs : List Int) (hl : xs.length ≤ 9223372036854775806) (d : Nat) : ∀ (i : Nat) (n : Int), i + d = xs.length →
    Ev (fun k => nums_Sum.l0 k n xs (xs.length : Int) (i : Int)) (sumGo n (xs.drop i)) := by
  induction d with
  | zero =>
    intro i n hi
    refine Ev.of (k := 1) (fun k => nums_Sum.mono_l k _ _ _ _) ?_
    show nums_Sum.l0 (0 + 1) _ _ _ _ = _
    simp only [nums_Sum.l0]
    rw [if_neg (by omega), List.drop_of_length_le (by omega)]
    rfl
  | succ d ih =>
    intro i n hi
    have hlt : i < xs.length := by omega
    obtain ⟨K, hK⟩ := add_ok n xs[i]
    obtain ⟨K1, hK1⟩ := ih (i + 1) (addS n xs[i]).1 (by omega)
    refine ⟨max K K1 + 1, fun k hk => ?_⟩
    obtain ⟨k, rfl⟩ : ∃ m, k = m + 1 := ⟨k - 1, by omega⟩
    have h1 := hK k (by omega)
    have h2 := hK1 k (by omega)
    show nums_Sum.l0 (k + 1) _ _ _ _ = _
    simp only at h1 h2
    simp only [nums_Sum.l0]
    rw [if_pos (by omega), if_pos (by omega), if_pos (by omega), rd_getElem xs i hlt, h1, Option.bind_some, wrap_succ i (by omega), h2, List.drop_eq_getElem_cons hlt, sumGo]
    split <;> rfl

theorem sum_ok (xs : List Int) (hl : xs.length ≤ 9223372036854775806) : Ev (fun k => nums_Sum.f k xs) (sumGo 0 xs) := by
  have := sum_loop xs hl xs.length 0 0 (by omega)
  exact this

theorem refSum_loop (xs : List Int) (hl : xs.length ≤ 9223372036854775806) (d : Nat) : ∀ (i : Nat) (n : Int), i + d = xs.length →
    Ev (fun k => lighterref01_Sum.l0 k xs n (i : Int)) (sumGo n (xs.drop i)) := by
  induction d with
  | zero =>
    intro i n hi
    refine Ev.of (k := 1) (fun k => lighterref01_Sum.mono_l k _ _ _) ?_
    show lighterref01_Sum.l0 (0 + 1) _ _ _ = _
    simp only [lighterref01_Sum.l0]
    rw [if_neg (by omega), List.drop_of_length_le (by omega)]
    rfl
  | succ d ih =>
    intro i n hi
    have hlt : i < xs.length := by omega
    obtain ⟨K1, hK1⟩ := ih (i + 1) (addS n xs[i]).1 (by omega)
    refine ⟨K1 + 1, fun k hk => ?_⟩
    obtain ⟨k, rfl⟩ : ∃ m, k = m + 1 := ⟨k - 1, by omega⟩
    have h2 := hK1 k (by omega)
    show lighterref01_Sum.l0 (k + 1) _ _ _ = _
    simp only at h2
    simp only [lighterref01_Sum.l0]
    rw [if_pos (by omega), if_pos (by omega), rd_getElem xs i hlt, refAdd_ok, Option.bind_some, wrap_succ i (by omega), h2, List.drop_eq_getElem_cons hlt, sumGo]
    split <;> rfl

theorem refSum_ok (xs : List Int) (hl : xs.length ≤ 9223372036854775806) : Ev (fun k => lighterref01_Sum.f k xs) (sumGo 0 xs) := by
  have := refSum_loop xs hl xs.length 0 0 (by omega)
  exact this

theorem is_same (n : Int) (b : Bool) : lighterlaw01_is.f n b n b = some true := by
  unfold lighterlaw01_is.f
  simp

theorem added_bind : Ev (fun k => (lighterlaw01_added.f k).bind fun t => some t) true := by
  obtain ⟨K, hK⟩ := added_ok
  refine ⟨K, fun k hk => ?_⟩
  have h := hK k hk
  simp only at h
  show (lighterlaw01_added.f k).bind _ = _
  rw [h]; rfl

theorem sumGo_eq (l : List Int) : ∀ n : Int, In n → sumGo n l = if (∀ x ∈ l, 0 ≤ x) ∧ n + l.sum ≤ 4611686018427387904 then (n + l.sum, true) else (0, false) := by
  have nonneg : ∀ l : List Int, (∀ x ∈ l, 0 ≤ x) → 0 ≤ l.sum := by
    intro l
    induction l with
    | nil => intro _; simp
    | cons x l ih =>
      intro h
      have h1 := h x (by simp)
      have h2 := ih (fun y hy => h y (by simp [hy]))
      simp only [List.sum_cons]
      omega
  induction l with
  | nil =>
    intro n hn
    simp [sumGo]
    exact hn.2
  | cons m l ih =>
    intro n hn
    rw [sumGo]
    unfold addS
    by_cases h : In n ∧ In m ∧ n + m ≤ 4611686018427387904
    · rw [if_pos h, if_pos rfl, ih (n + m) ⟨by have := h.1.1; have := h.2.1.1; omega, h.2.2⟩]
      have hm := h.2.1.1
      have e : n + m + l.sum = n + (m :: l).sum := by simp only [List.sum_cons]; omega
      show (if (∀ x ∈ l, 0 ≤ x) ∧ n + m + l.sum ≤ 4611686018427387904 then _ else _) = _
      rw [e]
      by_cases hs : (∀ x ∈ l, 0 ≤ x) ∧ n + (m :: l).sum ≤ 4611686018427387904
      · rw [if_pos hs, if_pos ⟨by intro x hx; rcases List.mem_cons.1 hx with rfl | hx; exact hm; exact hs.1 x hx, hs.2⟩]
      · rw [if_neg hs, if_neg (fun k => hs ⟨fun x hx => k.1 x (by simp [hx]), k.2⟩)]
    · rw [if_neg h, if_neg (by simp), if_neg]
      intro ⟨h1, h2⟩
      have hm := h1 m (by simp)
      have hs := nonneg l (fun x hx => h1 x (by simp [hx]))
      simp only [List.sum_cons] at h2
      have := hn.1
      have := hn.2
      exact h ⟨hn, ⟨hm, by omega⟩, by omega⟩

theorem sum_nonneg (l : List Int) (h : ∀ x ∈ l, 0 ≤ x) : 0 ≤ l.sum := by
  induction l with
  | nil => simp
  | cons x l ih =>
    have h1 := h x (by simp)
    have h2 := ih (fun y hy => h y (by simp [hy]))
    simp only [List.sum_cons]
    omega

theorem sum_rev (l : List Int) : l.reverse.sum = l.sum := by
  induction l with
  | nil => rfl
  | cons x l ih => simp [List.sum_append, ih]; omega

/-- What the numbers of NumsOrder come to. -/
theorem order_facts (l : List Int) (j : Nat) :
    let a := sumGo 0 l; let b := sumGo 0 l.reverse; let c := sumGo 0 (l.take j); let d := sumGo 0 (l.drop j)
    a = b ∧ (a.2 = true → c.2 = true ∧ d.2 = true ∧ addS c.1 d.1 = a ∧ subS a.1 d.1 = (c.1, true)) ∧ (a.2 = false → (c.2 && d.2 && (addS c.1 d.1).2) = false) := by
  intro a b c d
  have h0 : In 0 := by unfold In; omega
  have ha : a = _ := sumGo_eq l 0 h0
  have hb : b = _ := sumGo_eq l.reverse 0 h0
  have hc : c = _ := sumGo_eq (l.take j) 0 h0
  have hd : d = _ := sumGo_eq (l.drop j) 0 h0
  have hs : (l.take j).sum + (l.drop j).sum = l.sum := by rw [← List.sum_append, List.take_append_drop]
  simp only [Int.zero_add] at ha hb hc hd
  refine ⟨?_, ?_, ?_⟩
  · rw [ha, hb, sum_rev]
    simp
  · intro h
    by_cases hl : (∀ x ∈ l, 0 ≤ x) ∧ l.sum ≤ 4611686018427387904
    · have h1 : ∀ x ∈ l.take j, 0 ≤ x := fun x hx => hl.1 x (List.mem_of_mem_take hx)
      have h2 : ∀ x ∈ l.drop j, 0 ≤ x := fun x hx => hl.1 x (List.mem_of_mem_drop hx)
      have s1 := sum_nonneg _ h1
      have s2 := sum_nonneg _ h2
      have hl2 := hl.2
      rw [if_pos hl] at ha
      rw [if_pos ⟨h1, by omega⟩] at hc
      rw [if_pos ⟨h2, by omega⟩] at hd
      rw [ha, hc, hd]
      refine ⟨rfl, rfl, ?_, ?_⟩
      · unfold addS In
        rw [if_pos (by dsimp only; omega)]
        dsimp only
        rw [hs]
      · unfold subS In
        rw [if_pos (by dsimp only; omega)]
        dsimp only
        congr 1
        omega
    · rw [if_neg hl] at ha
      rw [ha] at h
      simp at h
  · intro h
    by_cases hl : (∀ x ∈ l, 0 ≤ x) ∧ l.sum ≤ 4611686018427387904
    · rw [if_pos hl] at ha
      rw [ha] at h
      simp at h
    · by_cases h1 : (∀ x ∈ l.take j, 0 ≤ x) ∧ (l.take j).sum ≤ 4611686018427387904
      · by_cases h2 : (∀ x ∈ l.drop j, 0 ≤ x) ∧ (l.drop j).sum ≤ 4611686018427387904
        · rw [if_pos h1] at hc
          rw [if_pos h2] at hd
          rw [hc, hd]
          unfold addS
          rw [if_neg]
          · simp
          · dsimp only
            rw [hs]
            intro ⟨_, _, h3⟩
            refine hl ⟨fun x hx => ?_, h3⟩
            rw [← List.take_append_drop j l] at hx
            rcases List.mem_append.1 hx with hx | hx
            · exact h1.1 x hx
            · exact h2.1 x hx
        · rw [if_neg h2] at hd
          rw [hd]
          simp
      · rw [if_neg h1] at hc
        rw [hc]
        simp

/-- What Share answers. -/
def shareS (p w : Int) : Int := if w < 1 ∨ p < 0 then 0 else if w ≤ p then 100 else p * 100 / w

theorem div64_small (lo y : Int) (hy : 0 < y) (hy1 : y < 18446744073709551616) (hlo : 0 ≤ lo) (hlo1 : lo < 18446744073709551616) (k : Nat) : bits_Div64.f k 0 lo y = some (lo / y, lo % y) := by
  unfold bits_Div64.f
  rw [if_neg (by omega), if_neg (by omega), if_pos rfl, Int.tdiv_eq_ediv_of_nonneg hlo, Int.tmod_eq_emod_of_nonneg hlo, u64_id (Int.ediv_nonneg hlo (by omega)) (Int.lt_of_le_of_lt (Int.ediv_le_self _ hlo) hlo1)]

theorem share_small (p w : Int) (hp : -9223372036854775808 ≤ p) (hp1 : p < 4294967296) (hw : I64 w) : Ev (fun k => nums_Share.f k p w) (shareS p w) := by
  refine ⟨1, fun k hk => ?_⟩
  obtain ⟨k, rfl⟩ : ∃ m, k = m + 1 := ⟨k - 1, by omega⟩
  show nums_Share.f (k + 1) p w = _
  unfold nums_Share.f shareS
  unfold I64 at hw
  by_cases h1 : w < 1
  · rw [if_pos h1, if_pos (.inl h1)]
    simp [nums_Share.j0]
  · rw [if_neg h1]
    by_cases h2 : p < 0
    · rw [if_pos (.inr h2)]
      simp [nums_Share.j0, h2]
    · rw [if_neg (by omega)]
      simp only [nums_Share.j0]
      rw [if_neg (by simpa using h2)]
      by_cases h3 : w ≤ p
      · rw [if_pos h3, if_pos h3]
      · rw [if_neg h3, if_neg h3, u64_id (a := p) (by omega) (by omega), mul64_ok p 100 (by omega) (by omega) (by decide) (by decide), Option.bind_some]
        have e1 : p * 100 / 18446744073709551616 = 0 := by omega
        have e2 : p * 100 % 18446744073709551616 = p * 100 := by omega
        rw [e1, e2, u64_id (a := w) (by omega) (by omega), div64_small (p * 100) w (by omega) (by omega) (by omega) (by omega), Option.bind_some]
        have h4 : 0 ≤ p * 100 / w := Int.ediv_nonneg (by omega) (by omega)
        have h5 : p * 100 / w ≤ p * 100 := Int.ediv_le_self _ (by omega)
        rw [wrap64_id (by unfold I64; dsimp only; omega)]

end Go.Proofs.Ytihlaamcepgipaa.Pure
