/- What BitsRun's plain function answers: true, for every text, from wherever, however many. -/
import Derived.Test.YtidnkckfkgaooaaBitsE
import Derived.Test.YtidnkckfkgaooaaQ4
namespace Go.Proofs.Ytidnkckfkgaooaa.Pure
open Go.RowKit Go.Proofs.Ytidnkckfkgaooaa.Q Go.Proofs.Ytidnkckfkgaooaa.Ext Go.Proofs.YtidnkckfkgaooaaW.PrintWords Go.Proofs.YtidnkckfkgaooaaW.PrintLast Go.Proofs.YtidnkckfkgaooaaW.PrintMore


attribute [local irreducible] Ext.runS countN
theorem run_loop (s : ByteArray) (from1 many a : Nat) (hs : s.size ≤ 30) (hf : from1 < 256) (hm1 : 1 ≤ many) (ha : okAt s many a) (hfa : from1 ≤ a) (hno : ∀ p, from1 ≤ p → p < a → ¬ okAt s many p) (d : Nat) : ∀ (j : Nat) (t : ByteArray), j + d = many → t.size = s.size →
    (∀ p, hasB t p = if a ≤ p ∧ p < a + j then true else hasB s p) → countN t = countN s + j → Ev (fun k => lighterlaw02_BitsRun.l0 k s (from1 : Int) (many : Int) (a : Int) t ((a + j : Nat) : Int)) true := by
  obtain ⟨ha1, ha2⟩ := ha
  have ia : I64 ((a : Int) - 1) := by unfold I64; omega
  have ja : I64 ((a - 1 : Nat) : Int) := by unfold I64; omega
  have fa : I64 (from1 : Int) := by unfold I64; omega
  have wa : Hid (wrap64 ((a : Int) + (many : Int)) = ((a + many : Nat) : Int)) := Lib.hid (by rw [wrap64_id (by unfold I64; omega)]; omega)
  induction d with
  | zero =>
    intro j t hj ht hb hc
    obtain rfl : j = many := by omega
    have cl := countN_le s
    obtain ⟨K1, hK1⟩ := count_ok t (by omega)
    obtain ⟨K2, hK2⟩ := count_ok s (by omega)
    obtain ⟨K3, hK3⟩ := shown_bind
    have hF := runS_found t (from1 : Int) (j : Int) (by omega)
    rw [Int.toNat_natCast, Int.toNat_natCast] at hF
    have hnext : runS t (from1 : Int) (j : Int) = -1 ∨ ((a + j : Nat) : Int) ≤ runS t (from1 : Int) (j : Int) := by
      rcases hF with ⟨h, _⟩ | ⟨b, h, hb1, ⟨hb2, hb3⟩, _⟩
      · exact .inl h
      · right
        rw [h]
        have hsb : okAt s j b := ⟨by omega, fun k hk => by
          have h3 := hb3 k hk
          rw [hb] at h3
          split at h3
          · cases h3
          · exact h3⟩
        have hab : a ≤ b := by
          rcases Nat.lt_or_ge b a with hlt | hge
          · exact absurd hsb (hno b hb1 hlt)
          · exact hge
        have h4 : ¬ b < a + j := by
          intro hlt
          have h3 := hb3 0 (by omega)
          rw [Nat.add_zero, hb, if_pos ⟨hab, hlt⟩] at h3
          cases h3
        omega
    have hlast : a = from1 ∨ hasB s (a - 1) = true := by
      rcases Nat.lt_or_ge from1 a with hlt | hge
      · right
        cases hb1 : hasB s (a - 1) with
        | true => rfl
        | false =>
          exfalso
          refine hno (a - 1) (by omega) (by omega) ⟨by omega, fun k hk => ?_⟩
          cases k with
          | zero => simpa using hb1
          | succ k =>
            have := ha2 k (by omega)
            rw [show a - 1 + (k + 1) = a + k from by omega]
            exact this
      · left; omega
    refine ⟨K1 + K2 + K3 + 1, fun k hk => ?_⟩
    obtain ⟨k, rfl⟩ : ∃ m, k = m + 1 := ⟨k - 1, by omega⟩
    have g1 := hK1 k (by omega)
    have g2 := hK2 k (by omega)
    have g3 := hK3 k (by omega)
    simp only at g1 g2 g3
    have wc : Hid (wrap64 ((countN s : Int) + (j : Int)) = ((countN s + j : Nat) : Int)) := Lib.hid (by rw [wrap64_id (by unfold I64; omega)]; omega)
    have cnt : ((bits_Count.f k t).bind fun t167 => ((bits_Count.f k s).bind fun t168 => (if t167 = (wrap64 (t168 + (j : Int))) then ((lighterlaw02_shown.f k).bind fun t169 => (some t169)) else (some false)))) = some true := by
      rw [g1, Option.bind_some, g2, Option.bind_some, wc.out, if_pos (by rw [hc]), g3]
    have tail : (if (a : Int) = (from1 : Int) then ((bits_Count.f k t).bind fun t167 => ((bits_Count.f k s).bind fun t168 => (if t167 = (wrap64 (t168 + (j : Int))) then ((lighterlaw02_shown.f k).bind fun t169 => (some t169)) else (some false)))) else ((bits_Has.f s (wrap64 ((a : Int) - 1))).bind fun t170 => (if t170 = true then ((bits_Count.f k t).bind fun t171 => ((bits_Count.f k s).bind fun t172 => (if t171 = (wrap64 (t172 + (j : Int))) then ((lighterlaw02_shown.f k).bind fun t173 => (some t173)) else (some false)))) else (some false)))) = some true := by
      by_cases e : a = from1
      · rw [if_pos (show (a : Int) = (from1 : Int) by rw [e])]
        exact cnt
      · have e1 : wrap64 ((a : Int) - 1) = ((a - 1 : Nat) : Int) := (wrap64_id ia).trans (by omega)
        have hl1 : hasB s (a - 1) = true := by
          rcases hlast with h | h
          · exact absurd h e
          · exact h
        rw [if_neg (show ¬ (a : Int) = (from1 : Int) by omega), e1, has_ok s ((a - 1 : Nat) : Int) (by omega) ja, Option.bind_some, hasI_nat, hl1, if_pos rfl]
        exact cnt
    show lighterlaw02_BitsRun.l0 (k + 1) _ _ _ _ _ _ = _
    simp only [lighterlaw02_BitsRun.l0]
    rw [wa.out, if_neg (by omega), run_ok t (from1 : Int) (j : Int) (by omega) fa, Option.bind_some]
    by_cases hm : runS t (from1 : Int) (j : Int) = -1
    · rw [if_pos hm]
      exact tail
    · rw [if_neg hm, if_pos (by rcases hnext with h | h; exact absurd h hm; exact h)]
      exact tail
  | succ d ih =>
    intro j t hj ht hb hc
    have hclear : hasB s (a + j) = false := ha2 j (by omega)
    have htclear : hasB t (a + j) = false := by
      rw [hb, if_neg (by omega)]; exact hclear
    obtain ⟨K, hK⟩ := ih (j + 1) (withS t (a + j) true) (by omega) (by rw [withS_size, ht]) (fun p => by
      rw [withS_bit t (a + j) p true (by omega), hb]
      by_cases e : p = a + j
      · rw [if_pos e, if_pos (by omega)]
      · rw [if_neg e]
        by_cases e2 : a ≤ p ∧ p < a + j
        · rw [if_pos e2, if_pos (by omega)]
        · rw [if_neg e2, if_neg (by omega)]) (by
      unfold countN
      rw [withS_size, countTo_one (withS t (a + j) true) t (a + j) (fun p => withS_bit t (a + j) p true (by omega)) htclear, if_pos (by omega)]
      unfold countN at hc
      omega)
    refine ⟨K + 1, fun k hk => ?_⟩
    obtain ⟨k, rfl⟩ : ∃ m, k = m + 1 := ⟨k - 1, by omega⟩
    have g := hK k (by omega)
    simp only at g
    show lighterlaw02_BitsRun.l0 (k + 1) _ _ _ _ _ _ = _
    simp only [lighterlaw02_BitsRun.l0]
    rw [wa.out, if_pos (by omega), has_ok s _ (by omega) (by unfold I64; omega), Option.bind_some, hasI_nat, hclear, if_neg (by simp), with_ok t _ _ (by unfold I64; omega), Option.bind_some, withI_in t _ _ (by omega), wrap_succ _ (by omega)]
    exact g


theorem some_set (s : ByteArray) (F m : Nat) (hfm : F + m ≤ 8 * s.size) (hno : ∀ p, F ≤ p → ¬ okAt s m p) : 1 ≤ countN s := by
  have hex : ∃ k, k < m ∧ hasB s (F + k) = true := by
    have hn := hno F (Nat.le_refl _)
    refine Classical.byContradiction fun hc => hn ⟨hfm, fun k hk => ?_⟩
    cases e : hasB s (F + k) with
    | false => rfl
    | true => exact absurd ⟨k, hk, e⟩ hc
  obtain ⟨k0, hk0, hk1⟩ := hex
  have mono : ∀ d n, countTo s n ≤ countTo s (n + d) := by
    intro d
    induction d with
    | zero => intro n; exact Nat.le_refl _
    | succ d ih =>
      intro n
      have := ih n
      rw [show n + (d + 1) = n + d + 1 from by omega]
      simp only [countTo]
      omega
  have h1 : 1 ≤ countTo s (F + k0 + 1) := by
    simp only [countTo]
    rw [if_pos hk1]
    omega
  have h2 := mono (8 * s.size - (F + k0 + 1)) (F + k0 + 1)
  rw [show F + k0 + 1 + (8 * s.size - (F + k0 + 1)) = 8 * s.size from by omega] at h2
  unfold countN
  omega

theorem BitsRun : lighterlaw02_BitsRun.Pure := by
  intro s f n _ hf hn
  refine Ev.rounds ?_
  have hu : 0 ≤ f ∧ f < 256 := by
    simp only [Lit.wf, IntKind.min, IntKind.max, IntKind.signed, IntKind.bits, Bool.and_eq_true] at hf
    simp at hf
    omega
  have hv : 0 ≤ n ∧ n < 256 := by
    simp only [Lit.wf, IntKind.min, IntKind.max, IntKind.signed, IntKind.bits, Bool.and_eq_true] at hn
    simp at hn
    omega
  clear hf hn
  by_cases h : (s.size : Int) > 30
  · refine Ev.congr (f := fun k => (lighterlaw02_shown.f k).bind fun t => some t) (fun k => ?_) shown_bind
    unfold lighterlaw02_BitsRun.f
    rw [if_pos h]
  · obtain ⟨F, rfl⟩ := Int.eq_ofNat_of_zero_le hu.1
    have w1 : Hid (wrap64 (F : Int) = (F : Int)) := Lib.hid (wrap64_id (by unfold I64; omega))
    have w2 : Hid (wrap64 n = n) := Lib.hid (wrap64_id (by unfold I64; omega))
    have w3' : wrap64 (1 + Int.tmod n 20) = ((1 + (n % 20).toNat : Nat) : Int) := by
      rw [Int.tmod_eq_emod_of_nonneg (by omega), wrap64_id (by unfold I64; omega)]; omega
    generalize hm : 1 + (n % 20).toNat = m at w3'
    have w3 := Lib.hid w3'
    clear w3'
    have m1 : 1 ≤ m := by omega
    have m2 : m ≤ 20 := by omega
    have e8 : Hid (wrap64 (8 * (s.size : Int)) = 8 * (s.size : Int)) := Lib.hid (wrap64_id (by unfold I64; omega))
    have fF : I64 (F : Int) := by unfold I64; omega
    have fFm : I64 ((F : Int) + (m : Int)) := by unfold I64; omega
    have hs0 : s.size ≤ 140737488351232 := by omega
    have hF := runS_found s (F : Int) (m : Int) (by omega)
    rw [Int.toNat_natCast, Int.toNat_natCast] at hF
    rcases hF with ⟨hr, hno⟩ | ⟨a, hr, hfa, ho, hno⟩
    · obtain ⟨K1, hK1⟩ := shown_bind
      obtain ⟨K2, hK2⟩ := count_ok s (by omega)
      refine ⟨K1 + K2, fun k hk => ?_⟩
      have g1 := hK1 k (by omega)
      have g2 := hK2 k (by omega)
      simp only at g1 g2
      have w4 : Hid (wrap64 ((F : Int) + (m : Int)) = (F : Int) + (m : Int)) := Lib.hid (wrap64_id fFm)
      show lighterlaw02_BitsRun.f k _ _ _ = _
      unfold lighterlaw02_BitsRun.f
      rw [if_neg h, w1.out, w2.out, w3.out, run_ok s (F : Int) (m : Int) hs0 fF, Option.bind_some, hr, if_pos (by decide), if_pos rfl, e8.out, w4.out]
      by_cases hb : 8 * (s.size : Int) < (F : Int) + (m : Int)
      · rw [if_pos hb, g1]
      · rw [if_neg hb, g2, Option.bind_some, if_pos, g1]
        have := some_set s F m (by omega) hno
        omega
    · obtain ⟨ho1, ho2⟩ := ho
      obtain ⟨K, hK⟩ := run_loop s F m a (by omega) (by omega) m1 ⟨ho1, ho2⟩ hfa hno m 0 s (by omega) rfl (fun p => by rw [if_neg (by omega)]) (by omega)
      refine ⟨K + 1, fun k hk => ?_⟩
      obtain ⟨k, rfl⟩ : ∃ m, k = m + 1 := ⟨k - 1, by omega⟩
      have g := hK k (by omega)
      simp only [Nat.add_zero] at g
      have w5 : Hid (wrap64 ((a : Int) + (m : Int)) = (a : Int) + (m : Int)) := Lib.hid (wrap64_id (by unfold I64; omega))
      show lighterlaw02_BitsRun.f (k + 1) _ _ _ = _
      unfold lighterlaw02_BitsRun.f
      rw [if_neg h, w1.out, w2.out, w3.out, run_ok s (F : Int) (m : Int) hs0 fF, Option.bind_some, hr, if_neg (by omega), if_neg (by omega), e8.out, w5.out]
      simp only [lighterlaw02_BitsRun.j0]
      rw [if_neg (by simp; omega)]
      exact g

end Go.Proofs.Ytidnkckfkgaooaa.Pure
