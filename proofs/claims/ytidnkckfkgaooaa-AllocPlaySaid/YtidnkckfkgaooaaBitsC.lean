/- What Count and Run, and those of the reference, come to. -/
import Derived.Test.YtidnkckfkgaooaaBitsB
namespace Go.Proofs.Ytidnkckfkgaooaa.Pure
open Go.RowKit Go.Proofs.Ytidnkckfkgaooaa.Q Go.Proofs.Ytidnkckfkgaooaa.Ext Go.Proofs.YtidnkckfkgaooaaW.PrintWords Go.Proofs.YtidnkckfkgaooaaW.PrintLast Go.Proofs.YtidnkckfkgaooaaW.PrintMore

/-- How many bits below a place are set. -/
def countTo (s : ByteArray) : Nat → Nat
  | 0 => 0
  | n + 1 => countTo s n + if hasB s n = true then 1 else 0

def onesTab : ByteArray := (⟨#[0, 1, 1, 2, 1, 2, 2, 3, 1, 2, 2, 3, 2, 3, 3, 4, 1, 2, 2, 3, 2, 3, 3, 4, 2, 3, 3, 4, 3, 4, 4, 5, 1, 2, 2, 3, 2, 3, 3, 4, 2, 3, 3, 4, 3, 4, 4, 5, 2, 3, 3, 4, 3, 4, 4, 5, 3, 4, 4, 5, 4, 5, 5, 6, 1, 2, 2, 3, 2, 3, 3, 4, 2, 3, 3, 4, 3, 4, 4, 5, 2, 3, 3, 4, 3, 4, 4, 5, 3, 4, 4, 5, 4, 5, 5, 6, 2, 3, 3, 4, 3, 4, 4, 5, 3, 4, 4, 5, 4, 5, 5, 6, 3, 4, 4, 5, 4, 5, 5, 6, 4, 5, 5, 6, 5, 6, 6, 7, 1, 2, 2, 3, 2, 3, 3, 4, 2, 3, 3, 4, 3, 4, 4, 5, 2, 3, 3, 4, 3, 4, 4, 5, 3, 4, 4, 5, 4, 5, 5, 6, 2, 3, 3, 4, 3, 4, 4, 5, 3, 4, 4, 5, 4, 5, 5, 6, 3, 4, 4, 5, 4, 5, 5, 6, 4, 5, 5, 6, 5, 6, 6, 7, 2, 3, 3, 4, 3, 4, 4, 5, 3, 4, 4, 5, 4, 5, 5, 6, 3, 4, 4, 5, 4, 5, 5, 6, 4, 5, 5, 6, 5, 6, 6, 7, 3, 4, 4, 5, 4, 5, 5, 6, 4, 5, 5, 6, 5, 6, 6, 7, 4, 5, 5, 6, 5, 6, 6, 7, 5, 6, 6, 7, 6, 7, 7, 8]⟩ : ByteArray)
/-- How many bits of a byte are set. -/
def onesOf (b : Nat) : Nat → Nat
  | 0 => 0
  | n + 1 => onesOf b n + if b.testBit n = true then 1 else 0
theorem ones_tab : ∀ b : Fin 256, bt onesTab (b.val : Int) = (onesOf b.val 8 : Int) := by decide +kernel
theorem onesOf_le (b n : Nat) : onesOf b n ≤ n := by
  induction n with
  | zero => simp [onesOf]
  | succ n ih => simp only [onesOf]; split <;> omega

set_option maxRecDepth 100000 in
theorem ones_f (b : Nat) (hb : b < 256) : bits_OnesCount8.f (b : Int) = some (onesOf b 8 : Int) := by
  have e : bits_OnesCount8.f (b : Int) = if 0 ≤ (b : Int) then (if (b : Int) < 256 then (some (wrap64 (bt onesTab (b : Int)))) else none) else none := by
    rw [bits_OnesCount8.f]; rfl
  have h := ones_tab ⟨b, hb⟩
  have h' : bt onesTab (b : Int) = (onesOf b 8 : Int) := h
  have := onesOf_le b 8
  rw [e, if_pos (by omega), if_pos (by omega), h', wrap64_id (by unfold I64; omega)]

theorem countTo_byte (s : ByteArray) (q : Nat) (hq : q < s.size) : ∀ n, n ≤ 8 → countTo s (8 * q + n) = countTo s (8 * q) + onesOf (byteN s q) n := by
  intro n
  induction n with
  | zero => intro _; rfl
  | succ n ih =>
    intro hn
    show countTo s (8 * q + n + 1) = _
    simp only [countTo, onesOf]
    rw [ih (by omega), hasB_eq, show (8 * q + n) / 8 = q from by omega, show (8 * q + n) % 8 = n from by omega, decide_eq_true (by omega), Bool.true_and]
    omega
theorem countTo_le (s : ByteArray) (n : Nat) : countTo s n ≤ n := by
  induction n with
  | zero => simp [countTo]
  | succ n ih => simp only [countTo]; split <;> omega

theorem count_loop (s : ByteArray) (hs : s.size ≤ 1048576) (d : Nat) : ∀ q : Nat, q + d = s.size →
    Ev (fun k => bits_Count.l0 k s (countTo s (8 * q) : Int) (s.size : Int) (q : Int)) (countTo s (8 * s.size) : Int) := by
  induction d with
  | zero =>
    intro q hq
    obtain rfl : q = s.size := by omega
    refine ⟨1, fun k hk => ?_⟩
    obtain ⟨k, rfl⟩ : ∃ m, k = m + 1 := ⟨k - 1, by omega⟩
    show bits_Count.l0 (k + 1) _ _ _ _ = _
    simp only [bits_Count.l0]
    rw [if_neg (by omega)]
  | succ d ih =>
    intro q hq
    obtain ⟨K, hK⟩ := ih (q + 1) (by omega)
    refine ⟨K + 1, fun k hk => ?_⟩
    obtain ⟨k, rfl⟩ : ∃ m, k = m + 1 := ⟨k - 1, by omega⟩
    have h := hK k (by omega)
    simp only at h
    have e := countTo_byte s q (by omega) 8 (Nat.le_refl _)
    have l1 := countTo_le s (8 * q)
    have l2 := onesOf_le (byteN s q) 8
    show bits_Count.l0 (k + 1) _ _ _ _ = _
    simp only [bits_Count.l0]
    rw [if_pos (by omega), if_pos (by omega), if_pos (by omega), bt_byteN, ones_f _ (byteN_lt s q), Option.bind_some, wrap64_id (by unfold I64; omega), wrap_succ q (by omega),
      show (countTo s (8 * q) : Int) + (onesOf (byteN s q) 8 : Int) = ((countTo s (8 * (q + 1)) : Nat) : Int) from by rw [show 8 * (q + 1) = 8 * q + 8 from by omega, e]; omega]
    exact h

/-- How many bits are set. -/
def countN (s : ByteArray) : Nat := countTo s (8 * s.size)
theorem countN_le (s : ByteArray) : countN s ≤ 8 * s.size := countTo_le _ _
theorem count_ok (s : ByteArray) (hs : s.size ≤ 1048576) : Ev (fun k => bits_Count.f k s) (countN s : Int) := count_loop s hs s.size 0 (by omega)

theorem refCount_loop (s : ByteArray) (hs : s.size ≤ 1048576) (d : Nat) : ∀ q : Nat, q + d = 8 * s.size →
    Ev (fun k => lighterref02_Count.l0 k s (countTo s q : Int) (q : Int)) (countTo s (8 * s.size) : Int) := by
  have e8 : wrap64 (8 * (s.size : Int)) = 8 * (s.size : Int) := wrap64_id (by unfold I64; omega)
  induction d with
  | zero =>
    intro q hq
    obtain rfl : q = 8 * s.size := by omega
    refine ⟨1, fun k hk => ?_⟩
    obtain ⟨k, rfl⟩ : ∃ m, k = m + 1 := ⟨k - 1, by omega⟩
    show lighterref02_Count.l0 (k + 1) _ _ _ = _
    simp only [lighterref02_Count.l0]
    rw [e8, if_neg (by omega)]
  | succ d ih =>
    intro q hq
    obtain ⟨K, hK⟩ := ih (q + 1) (by omega)
    obtain ⟨K2, hK2⟩ := refHas_ok s (q : Int) (by omega) (by unfold I64; omega)
    refine ⟨K + K2 + 1, fun k hk => ?_⟩
    obtain ⟨k, rfl⟩ : ∃ m, k = m + 1 := ⟨k - 1, by omega⟩
    have h := hK k (by omega)
    have h2 := hK2 k (by omega)
    simp only at h h2
    have l1 := countTo_le s q
    have e2 : hasI s (q : Int) = hasB s q := by
      unfold hasI
      rw [decide_eq_true (by omega), Bool.true_and, Int.toNat_natCast]
    show lighterref02_Count.l0 (k + 1) _ _ _ = _
    simp only [lighterref02_Count.l0]
    rw [e8, if_pos (by omega), h2, Option.bind_some, e2, wrap_succ q (by omega), wrap_succ (countTo s q) (by omega)]
    simp only [countTo] at h
    by_cases hb : hasB s q = true
    · rw [if_pos hb] at h ⊢
      exact h
    · rw [if_neg hb] at h ⊢
      exact h

theorem refCount_ok (s : ByteArray) (hs : s.size ≤ 1048576) : Ev (fun k => lighterref02_Count.f k s) (countN s : Int) := refCount_loop s hs (8 * s.size) 0 (by omega)

/-- So many bits from one on are there, and clear. -/
def okAt (s : ByteArray) (n i : Nat) : Prop := i + n ≤ 8 * s.size ∧ ∀ k, k < n → hasB s (i + k) = false

/-- What a search for so many clear bits answers: the first place from one on; below 0: there is none. -/
def Found (s : ByteArray) (i n : Nat) (r : Int) : Prop := (r = -1 ∧ ∀ p, i ≤ p → ¬ okAt s n p) ∨ (∃ a : Nat, r = (a : Int) ∧ i ≤ a ∧ okAt s n a ∧ ∀ p, i ≤ p → p < a → ¬ okAt s n p)
theorem Found.unique {s : ByteArray} {i n : Nat} {r q : Int} (h : Found s i n r) (k : Found s i n q) : r = q := by
  rcases h with ⟨rfl, h⟩ | ⟨a, rfl, ha, ho, h⟩
  · rcases k with ⟨rfl, _⟩ | ⟨b, rfl, hb, hp, _⟩
    · rfl
    · exact absurd hp (h b hb)
  · rcases k with ⟨rfl, k⟩ | ⟨b, rfl, hb, hp, k⟩
    · exact absurd ho (k a ha)
    · rcases Nat.lt_trichotomy a b with hab | hab | hab
      · exact absurd ho (k a ha hab)
      · rw [hab]
      · exact absurd hp (h b hb hab)

theorem clear_facts (s : ByteArray) : ∀ (f i : Nat), 8 * s.size ≤ i + f → (∀ k, k < clearLen s f i → hasB s (i + k) = false ∧ i + k < 8 * s.size) ∧ (i + clearLen s f i < 8 * s.size → hasB s (i + clearLen s f i) = true) := by
  intro f
  induction f with
  | zero =>
    intro i h
    simp only [clearLen]
    exact ⟨fun k hk => absurd hk (by omega), fun h2 => absurd h2 (by omega)⟩
  | succ f ih =>
    intro i h
    simp only [clearLen]
    by_cases hc : thereB s i = true ∧ hasB s i = false
    · rw [if_pos hc]
      obtain ⟨h1, h2⟩ := ih (i + 1) (by omega)
      have ht := hc.1
      unfold thereB at ht
      rw [decide_eq_true_eq] at ht
      refine ⟨fun k hk => ?_, fun h3 => ?_⟩
      · cases k with
        | zero => exact ⟨hc.2, ht⟩
        | succ k =>
          have := h1 k (by omega)
          rw [show i + (k + 1) = i + 1 + k from by omega]
          exact this
      · rw [show i + (clearLen s f (i + 1) + 1) = i + 1 + clearLen s f (i + 1) from by omega] at h3 ⊢
        exact h2 h3
    · rw [if_neg hc]
      refine ⟨fun k hk => absurd hk (by omega), fun h3 => ?_⟩
      rw [Nat.add_zero] at h3 ⊢
      cases hb : hasB s i with
      | true => rfl
      | false => exact absurd ⟨by unfold thereB; exact decide_eq_true h3, hb⟩ hc

theorem firstRun_found (s : ByteArray) (n : Nat) (hn : 1 ≤ n) : ∀ (f i : Nat), 8 * s.size ≤ i + f → Found s i n (((firstRun (n : Int) (runs s f i)).map (·.1)).getD (-1)) := by
  intro f
  induction f with
  | zero =>
    intro i h
    refine .inl ⟨rfl, fun p hp ho => ?_⟩
    have := ho.1
    omega
  | succ f ih =>
    intro i h
    simp only [runs]
    by_cases ht : thereB s i = true
    · rw [if_pos ht]
      obtain ⟨c1, c2⟩ := clear_facts s (8 * s.size) i (by omega)
      generalize hl : clearLen s (8 * s.size) i = l at c1 c2 ⊢
      have ht' := ht
      unfold thereB at ht'
      rw [decide_eq_true_eq] at ht'
      have hle : i + l ≤ 8 * s.size := by
        cases l with
        | zero => omega
        | succ l => have := (c1 l (by omega)).2; omega
      by_cases hnl : n ≤ l
      · rw [if_pos (by omega)]
        have e : firstRun (n : Int) ([((i : Int), (l : Int))] ++ runs s f (i + l + 1)) = some ((i : Int), (l : Int)) := by
          unfold firstRun
          rw [List.singleton_append, List.find?_cons_of_pos (by simpa using hnl)]
        rw [e]
        exact .inr ⟨i, rfl, Nat.le_refl _, ⟨by omega, fun k hk => (c1 k (by omega)).1⟩, fun p hp hp2 => absurd hp (by omega)⟩
      · have e : firstRun (n : Int) ((if 0 < l then [((i : Int), (l : Int))] else []) ++ runs s f (i + l + 1)) = firstRun (n : Int) (runs s f (i + l + 1)) := by
          unfold firstRun
          split
          · rw [List.singleton_append, List.find?_cons_of_neg (by simpa using hnl)]
          · rfl
        rw [e]
        have skip : ∀ p, i ≤ p → p ≤ i + l → ¬ okAt s n p := by
          intro p hp hp2 ho
          have hb := c2 (by have := ho.1; omega)
          have := ho.2 (i + l - p) (by omega)
          rw [show p + (i + l - p) = i + l from by omega, hb] at this
          cases this
        rcases ih (i + l + 1) (by omega) with ⟨hr, hno⟩ | ⟨a, hr, ha, ho, hno⟩
        · refine .inl ⟨hr, fun p hp => ?_⟩
          by_cases hp2 : p ≤ i + l
          · exact skip p hp hp2
          · exact hno p (by omega)
        · refine .inr ⟨a, hr, by omega, ho, fun p hp hp3 => ?_⟩
          by_cases hp2 : p ≤ i + l
          · exact skip p hp hp2
          · exact hno p (by omega) hp3
    · rw [if_neg ht]
      refine .inl ⟨rfl, fun p hp ho => ?_⟩
      have := ho.1
      unfold thereB at ht
      rw [decide_eq_true_eq] at ht
      omega

theorem runS_found (s : ByteArray) (i n : Int) (hn : 1 ≤ n) : Found s i.toNat n.toNat (runS s i n) := by
  unfold runS allRuns
  rw [if_neg (by omega)]
  have h := firstRun_found s n.toNat (by omega) (8 * s.size + 1) i.toNat (by omega)
  rw [Int.toNat_of_nonneg (by omega)] at h
  exact h

theorem run_ok (s : ByteArray) (i n : Int) (hs : s.size ≤ 140737488351232) (hi : I64 i) : bits_Run.f s i n = some (runS s i n) := by
  unfold bits_Run.f
  unfold I64 at hi
  rw [if_pos ⟨hs, hi⟩]

theorem refRun_inner (s : ByteArray) (n i : Nat) (hs : s.size ≤ 1048576) (hi : i + n ≤ 8 * s.size) (d : Nat) (r : Int) : ∀ (j : Nat) (c : Bool), j + d = n →
    (c = true ↔ ∀ k, k < j → hasB s (i + k) = false) →
    (okAt s n i → r = i) → (¬ okAt s n i → Ev (fun k => lighterref02_Run.l0 k s (n : Int) ((i + 1 : Nat) : Int)) r) →
    Ev (fun k => lighterref02_Run.l1 k s (n : Int) (i : Int) c (j : Int)) r := by
  induction d with
  | zero =>
    intro j c hj hc h1 h2
    obtain rfl : j = n := by omega
    by_cases ho : okAt s j i
    · have hct : c = true := hc.2 ho.2
      subst hct
      refine ⟨1, fun k hk => ?_⟩
      obtain ⟨k, rfl⟩ : ∃ m, k = m + 1 := ⟨k - 1, by omega⟩
      show lighterref02_Run.l1 (k + 1) _ _ _ _ _ = _
      simp only [lighterref02_Run.l1]
      rw [if_neg (by omega), if_pos trivial, h1 ho]
    · have hcf : c = false := by
        cases c with
        | false => rfl
        | true => exact absurd ⟨hi, hc.1 rfl⟩ ho
      subst hcf
      obtain ⟨K, hK⟩ := h2 ho
      refine ⟨K + 1, fun k hk => ?_⟩
      obtain ⟨k, rfl⟩ : ∃ m, k = m + 1 := ⟨k - 1, by omega⟩
      have h := hK k (by omega)
      simp only at h
      show lighterref02_Run.l1 (k + 1) _ _ _ _ _ = _
      simp only [lighterref02_Run.l1]
      rw [if_neg (by omega), if_neg (by simp), wrap_succ i (by omega)]
      exact h
  | succ d ih =>
    intro j c hj hc h1 h2
    by_cases hct : c = true
    · subst hct
      obtain ⟨K, hK⟩ := ih (j + 1) (!hasB s (i + j)) (by omega) (by
        constructor
        · intro hb k hk
          by_cases e : k = j
          · subst e; simpa using hb
          · exact hc.1 rfl k (by omega)
        · intro hb
          have := hb j (by omega)
          simp [this]) h1 h2
      obtain ⟨K2, hK2⟩ := refHas_ok s ((i + j : Nat) : Int) (by omega) (by unfold I64; omega)
      refine ⟨K + K2 + 1, fun k hk => ?_⟩
      obtain ⟨k, rfl⟩ : ∃ m, k = m + 1 := ⟨k - 1, by omega⟩
      have h := hK k (by omega)
      have h3 := hK2 k (by omega)
      simp only at h h3
      have e1 : wrap64 ((i : Int) + (j : Int)) = ((i + j : Nat) : Int) := by rw [wrap64_id (by unfold I64; omega)]; omega
      have e2 : hasI s ((i + j : Nat) : Int) = hasB s (i + j) := by
        unfold hasI
        rw [decide_eq_true (by omega), Bool.true_and, Int.toNat_natCast]
      show lighterref02_Run.l1 (k + 1) _ _ _ _ _ = _
      simp only [lighterref02_Run.l1]
      rw [if_pos (by omega), if_pos trivial, e1, h3, Option.bind_some, e2, wrap_succ j (by omega)]
      exact h
    · have hcf : c = false := by simpa using hct
      subst hcf
      obtain ⟨K, hK⟩ := ih (j + 1) false (by omega) (by
        constructor
        · intro hb; cases hb
        · intro hb
          exact absurd (hc.2 (fun k hk => hb k (by omega))) (by simp)) h1 h2
      refine ⟨K + 1, fun k hk => ?_⟩
      obtain ⟨k, rfl⟩ : ∃ m, k = m + 1 := ⟨k - 1, by omega⟩
      have h := hK k (by omega)
      simp only at h
      show lighterref02_Run.l1 (k + 1) _ _ _ _ _ = _
      simp only [lighterref02_Run.l1]
      rw [if_pos (by omega), if_neg (by simp), wrap_succ j (by omega)]
      exact h

theorem refRun_outer (s : ByteArray) (n : Nat) (hs : s.size ≤ 1048576) (hn : n ≤ 8 * s.size) (d : Nat) : ∀ i : Nat, i ≤ 9223372036854775807 → 8 * s.size + 1 ≤ i + n + d → ∃ r, Found s i n r ∧ Ev (fun k => lighterref02_Run.l0 k s (n : Int) (i : Int)) r := by
  have e8 : wrap64 (8 * (s.size : Int)) = 8 * (s.size : Int) := wrap64_id (by unfold I64; omega)
  have en : wrap64 (8 * (s.size : Int) - (n : Int)) = 8 * (s.size : Int) - (n : Int) := wrap64_id (by unfold I64; omega)
  have stop : ∀ i : Nat, 8 * s.size < i + n → ∃ r, Found s i n r ∧ Ev (fun k => lighterref02_Run.l0 k s (n : Int) (i : Int)) r := by
    intro i h
    refine ⟨-1, .inl ⟨rfl, fun p hp ho => ?_⟩, ⟨1, fun k hk => ?_⟩⟩
    · have := ho.1
      omega
    · obtain ⟨k, rfl⟩ : ∃ m, k = m + 1 := ⟨k - 1, by omega⟩
      show lighterref02_Run.l0 (k + 1) _ _ _ = _
      simp only [lighterref02_Run.l0]
      rw [e8, en, if_neg (by omega)]
  induction d with
  | zero =>
    intro i _ h
    exact stop i (by omega)
  | succ d ih =>
    intro i hi h
    by_cases hgo : i + n ≤ 8 * s.size
    · obtain ⟨r, hr, hE⟩ := ih (i + 1) (by omega) (by omega)
      have key : ∀ r' : Int, (okAt s n i → r' = (i : Int)) → (¬ okAt s n i → r' = r) → Ev (fun k => lighterref02_Run.l0 k s (n : Int) (i : Int)) r' := by
        intro r' k1 k2
        obtain ⟨K, hK⟩ := refRun_inner s n i hs hgo n r' 0 true (by omega) ⟨fun _ k hk => absurd hk (by omega), fun _ => rfl⟩ k1 (fun z => by rw [k2 z]; exact hE)
        refine ⟨K + 1, fun k hk => ?_⟩
        obtain ⟨k, rfl⟩ : ∃ m, k = m + 1 := ⟨k - 1, by omega⟩
        have h := hK k (by omega)
        simp only at h
        show lighterref02_Run.l0 (k + 1) _ _ _ = _
        simp only [lighterref02_Run.l0]
        rw [e8, en, if_pos (by omega)]
        exact h
      by_cases ho : okAt s n i
      · exact ⟨i, .inr ⟨i, rfl, Nat.le_refl _, ho, fun p hp hp2 => absurd hp (by omega)⟩, key i (fun _ => rfl) (fun z => absurd ho z)⟩
      · refine ⟨r, ?_, key r (fun z => absurd z ho) (fun _ => rfl)⟩
        rcases hr with ⟨hr, hno⟩ | ⟨a, hr, ha, hoa, hno⟩
        · refine .inl ⟨hr, fun p hp => ?_⟩
          by_cases e : p = i
          · subst e; exact ho
          · exact hno p (by omega)
        · refine .inr ⟨a, hr, by omega, hoa, fun p hp hp2 => ?_⟩
          by_cases e : p = i
          · subst e; exact ho
          · exact hno p (by omega) hp2
    · exact stop i (by omega)

theorem refRun_ok (s : ByteArray) (i n : Int) (hs : s.size ≤ 1048576) (hi : I64 i) (hn : I64 n) : Ev (fun k => lighterref02_Run.f k s i n) (runS s i n) := by
  unfold I64 at hi hn
  have e8 : wrap64 (8 * (s.size : Int)) = 8 * (s.size : Int) := wrap64_id (by unfold I64; omega)
  by_cases h1 : n < 1
  · have hS : runS s i n = -1 := by unfold runS; rw [if_pos h1]
    refine ⟨1, fun k hk => ?_⟩
    obtain ⟨k, rfl⟩ : ∃ m, k = m + 1 := ⟨k - 1, by omega⟩
    show lighterref02_Run.f (k + 1) _ _ _ = _
    unfold lighterref02_Run.f
    rw [if_pos h1, hS]
    simp only [lighterref02_Run.j0]
    rw [if_pos trivial]
  · have hF := runS_found s i n (by omega)
    by_cases h2 : n > 8 * (s.size : Int)
    · have hS : runS s i n = -1 := by
        rcases hF with ⟨h, _⟩ | ⟨a, _, _, ho, _⟩
        · exact h
        · have := ho.1
          omega
      refine ⟨1, fun k hk => ?_⟩
      obtain ⟨k, rfl⟩ : ∃ m, k = m + 1 := ⟨k - 1, by omega⟩
      show lighterref02_Run.f (k + 1) _ _ _ = _
      unfold lighterref02_Run.f
      rw [if_neg h1, e8, hS]
      simp only [lighterref02_Run.j0]
      rw [if_pos (by simpa using h2)]
    · obtain ⟨N, rfl⟩ := Int.eq_ofNat_of_zero_le (show 0 ≤ n by omega)
      rw [Int.toNat_natCast] at hF
      have em : mx i 0 = (i.toNat : Int) := by unfold mx; split <;> omega
      obtain ⟨r, hr, K, hK⟩ := refRun_outer s N hs (by omega) (8 * s.size + 1) i.toNat (by omega) (by omega)
      rw [hF.unique hr]
      refine ⟨K + 1, fun k hk => ?_⟩
      obtain ⟨k, rfl⟩ : ∃ m, k = m + 1 := ⟨k - 1, by omega⟩
      have h := hK k (by omega)
      simp only at h
      show lighterref02_Run.f (k + 1) _ _ _ = _
      unfold lighterref02_Run.f
      rw [if_neg h1, e8]
      simp only [lighterref02_Run.j0]
      rw [if_neg (by simpa using h2), em]
      exact h

end Go.Proofs.Ytidnkckfkgaooaa.Pure
