/- What was flushed is there: in plain words. -/
import Derived.Test.YteblobookpldfaaSeX
namespace Go.Proofs.Yteblobookpldfaa.Se
open Go.RowKit Go.Shelf Go.Proofs

/-- All loose writes made sure: what is read. -/
theorem setN_all (L : List (Nat × ByteArray)) (s : List ByteArray) (k : Nat) (hk : k < s.length) : ∀ m, m ≤ L.length → (setN (fun _ => true) L s m)[k]? = some (match lastW k (L.take m) with | some x => x | none => s.getD k ⟨#[]⟩)
  | 0, _ => by
    rw [List.take_zero]
    show s[k]? = some (s.getD k ⟨#[]⟩)
    rw [List.getD_eq_getElem?_getD, List.getElem?_eq_getElem hk]
    rfl
  | m + 1, hm => by
    obtain ⟨x, hx⟩ : ∃ x, L[m]? = some x := ⟨_, List.getElem?_eq_getElem (by omega)⟩
    have ih := setN_all L s k hk m (by omega)
    rw [setN_yes hx rfl, List.getElem?_set, List.take_add_one, hx]
    simp only [Option.toList]
    rw [lastW_snoc]
    by_cases e : x.1 = k
    · rw [if_pos e, if_pos e, if_pos (by rw [setN_length, e]; exact hk)]
    · rw [if_neg e, if_neg e]
      exact ih
/-- Some made sure: each sector has what was sure, or a write of it. -/
theorem setN_some (K : Nat → Bool) (L : List (Nat × ByteArray)) (s : List ByteArray) (k : Nat) : ∀ m, (setN K L s m)[k]? = s[k]? ∨ ∃ x ∈ L, x.1 = k ∧ (setN K L s m)[k]? = some x.2
  | 0 => .inl rfl
  | m + 1 => by
    have ih := setN_some K L s k m
    cases hx : L[m]? with
    | none =>
      have e : setN K L s (m + 1) = setN K L s m := by rw [setN]; simp only [hx]
      rw [e]
      exact ih
    | some x =>
      cases hk : K m
      · rw [setN_no hk]
        exact ih
      · rw [setN_yes hx hk, List.getElem?_set]
        by_cases e : x.1 = k
        · by_cases hl : x.1 < (setN K L s m).length
          · rw [if_pos e, if_pos hl]
            exact .inr ⟨x, List.mem_of_getElem? hx, e, rfl⟩
          · rw [if_pos e, if_neg hl]
            left
            rw [setN_length] at hl
            exact (List.getElem?_eq_none (by omega)).symm
        · rw [if_neg e]
          exact ih
/-- The law's own books: what is sure, the last of each, which writes are loose. -/
structure SI (i : Nat) (d : Dk) (S L : List UInt8) (f : Nat → Nat → Bool) : Prop where
  up : d.down = false
  nf : d.fails = false
  ok : Ok i d
  len : d.sure.length = 8
  sl : S.length = 8
  ll : L.length = 8
  sure : ∀ (k : Nat) (c : UInt8), S[k]? = some c → d.sure[k]? = some (secS c)
  loose : ∀ x ∈ d.loose, x.1 < 8 ∧ ∃ c : UInt8, c.toNat ≤ 60 ∧ x.2 = secS c ∧ f x.1 c.toNat = true
  last : ∀ (k : Nat) (c : UInt8), L[k]? = some c → readD d k = secS c
def upd (f : Nat → Nat → Bool) (n j : Nat) : Nat → Nat → Bool := fun a b => if a = n ∧ b = j then true else f a b
def noF : Nat → Nat → Bool := fun _ _ => false
theorem readD_put (d : Dk) (n k : Nat) (s : ByteArray) : readD (putD n s d) k = if n = k then s else readD d k := by
  unfold readD putD
  rw [lastW_snoc]
  by_cases e : n = k
  · rw [if_pos e, if_pos e]
  · rw [if_neg e, if_neg e]
theorem readD_nil {d : Dk} (h : d.loose = []) (k : Nat) : readD d k = d.sure.getD k ⟨#[]⟩ := by
  unfold readD
  rw [h]
  rfl
theorem SI.new : SI 0 (dN 8) (List.replicate 8 0) (List.replicate 8 0) noF := by
  have h : ∀ (k : Nat) (c : UInt8), (List.replicate 8 (0 : UInt8))[k]? = some c → k < 8 ∧ c = 0 := fun k c hc => by
    rw [List.getElem?_replicate] at hc
    split at hc
    · cases hc; exact ⟨by assumption, rfl⟩
    · cases hc
  refine ⟨rfl, rfl, ok_new 8 (by decide), by simp [dN], by simp, by simp, fun k c hc => ?_, fun x hx => (by cases hx), fun k c hc => ?_⟩
  · obtain ⟨h1, rfl⟩ := h k c hc
    show (List.replicate 8 (secS 0))[k]? = _
    rw [List.getElem?_replicate, if_pos h1]
  · obtain ⟨h1, rfl⟩ := h k c hc
    rw [readD_nil rfl]
    show (List.replicate 8 (secS 0)).getD k _ = _
    rw [List.getD_eq_getElem?_getD, List.getElem?_replicate, if_pos h1]
    rfl
theorem SI.write {i : Nat} {d : Dk} {S L : List UInt8} {f : Nat → Nat → Bool} (h : SI i d S L f) {n : Nat} (hn : n < 8) {c : UInt8} (hc : c.toNat ≤ 60) :
    ∃ d', opWrite (n : Int) (secS c) d = (0, d') ∧ SI (i + 1) d' S (L.set n c) (upd f n c.toNat) := by
  have hw := ok_opWrite h.ok (n : Int) (secS c)
  have e : opWrite (n : Int) (secS c) d = (0, putD n (secS c) d) := by
    have := opWrite_in h.up (n := n) (by rw [h.len]; exact hn) (secS_size c)
    rw [nf_isDue h.nf, nf_dueD h.nf] at this
    exact this
  rw [e] at hw
  refine ⟨_, e, h.up, h.nf, hw, h.len, h.sl, by rw [List.length_set]; exact h.ll, h.sure, fun x hx => ?_, fun k c' hc' => ?_⟩
  · rcases List.mem_append.1 hx with hx | hx
    · obtain ⟨h1, c', h2, h3, h4⟩ := h.loose x hx
      refine ⟨h1, c', h2, h3, ?_⟩
      unfold upd
      split
      · rfl
      · exact h4
    · obtain rfl := List.mem_singleton.1 hx
      exact ⟨hn, c, hc, rfl, by unfold upd; rw [if_pos ⟨rfl, rfl⟩]⟩
  · rw [readD_put]
    rw [List.getElem?_set] at hc'
    by_cases e : n = k
    · rw [if_pos e] at hc' ⊢
      rw [if_pos (by rw [h.ll]; omega)] at hc'
      cases hc'
      rfl
    · rw [if_neg e] at hc' ⊢
      exact h.last k c' hc'
theorem SI.flush {i : Nat} {d : Dk} {S L : List UInt8} {f : Nat → Nat → Bool} (h : SI i d S L f) : ∃ d', opFlush d = (0, d') ∧ d'.loose = [] ∧ SI i d' L L noF := by
  have hf : opFlush d = (0, flushD d) := by
    unfold opFlush
    rw [h.up, nf_isDue h.nf, nf_dueD h.nf]
    rfl
  have hs : ∀ (k : Nat) (c : UInt8), L[k]? = some c → (flushD d).sure[k]? = some (secS c) := fun k c hc => by
    have hk : k < 8 := by
      have := (List.getElem?_eq_some_iff.1 hc).1
      rw [h.ll] at this
      exact this
    have h1 := setN_all d.loose d.sure k (by rw [h.len]; exact hk) d.loose.length (Nat.le_refl _)
    rw [List.take_length] at h1
    have h2 := h.last k c hc
    unfold readD at h2
    show (setN (fun _ => true) d.loose d.sure d.loose.length)[k]? = _
    rw [h1, ← h2]
    rfl
  refine ⟨_, hf, rfl, h.up, h.nf, ok_flush h.ok, ?_, h.ll, h.ll, hs, fun x hx => (by cases hx), fun k c hc => ?_⟩
  · show (setN _ _ _ _).length = 8
    rw [setN_length]
    exact h.len
  · rw [readD_nil rfl, List.getD_eq_getElem?_getD, hs k c hc]
    rfl
/-- Behind a crash: what each sector has. -/
theorem SI.crash {i : Nat} {d : Dk} {S L : List UInt8} {f : Nat → Nat → Bool} (h : SI i d S L f) (ks : List Bool) :
    ∃ d1 d2 X, opCrash ks d = (0, d1) ∧ Ok i d1 ∧ opStart d1 = (0, d2) ∧ d2.loose = [] ∧ SI i d2 X X noF ∧ ∀ (k : Nat) (c s : UInt8), X[k]? = some c → S[k]? = some s → c = s ∨ (c.toNat ≤ 60 ∧ f k c.toNat = true) := by
  have hlen : (crashD ks d).sure.length = 8 := by rw [crash_len]; exact h.len
  have each : ∀ k, k < 8 → ∃ c : UInt8, (crashD ks d).sure[k]? = some (secS c) ∧ ∀ s : UInt8, S[k]? = some s → c = s ∨ (c.toNat ≤ 60 ∧ f k c.toNat = true) := fun k hk => by
    obtain ⟨s, hs⟩ : ∃ s, S[k]? = some s := ⟨_, List.getElem?_eq_getElem (by rw [h.sl]; exact hk)⟩
    rcases setN_some (fun i => ks.getD i false) d.loose d.sure k d.loose.length with e | ⟨x, hx, e1, e2⟩
    · refine ⟨s, e.trans (h.sure k s hs), fun s' hs' => .inl ?_⟩
      rw [hs] at hs'
      exact Option.some.inj hs'
    · obtain ⟨_, c, h2, h3, h4⟩ := h.loose x hx
      refine ⟨c, e2.trans (by rw [h3]), fun s' _ => .inr ⟨h2, by rw [← e1]; exact h4⟩⟩
  obtain ⟨X, hX⟩ : ∃ X : Nat → UInt8, ∀ k, k < 8 → (crashD ks d).sure[k]? = some (secS (X k)) ∧ ∀ s : UInt8, S[k]? = some s → X k = s ∨ ((X k).toNat ≤ 60 ∧ f k (X k).toNat = true) := by
    refine ⟨fun k => if hk : k < 8 then Classical.choose (each k hk) else 0, fun k hk => ?_⟩
    simp only [dif_pos hk]
    exact Classical.choose_spec (each k hk)
  have hget : ∀ (k : Nat) (c : UInt8), ((List.range 8).map X)[k]? = some c → k < 8 ∧ c = X k := fun k c hc => by
    rw [List.getElem?_map, Option.map_eq_some_iff] at hc
    obtain ⟨j, hj, rfl⟩ := hc
    obtain ⟨hj1, rfl⟩ := List.getElem?_eq_some_iff.1 hj
    simp only [List.getElem_range]
    exact ⟨by simpa using hj1, trivial⟩
  have okc := ok_crash (ks := ks) h.ok
  refine ⟨crashD ks d, startD (crashD ks d), (List.range 8).map X, ?_, okc, rfl, rfl, ⟨rfl, rfl, ⟨okc.len, okc.ins, okc.soon, okc.loose⟩, hlen, by simp, by simp, fun k c hc => ?_, fun x hx => (by cases hx), fun k c hc => ?_⟩, fun k c s hc hs => ?_⟩
  · unfold opCrash
    rw [h.up]
    rfl
  · obtain ⟨hk, rfl⟩ := hget k c hc
    exact (hX k hk).1
  · obtain ⟨hk, rfl⟩ := hget k c hc
    rw [readD_nil rfl, List.getD_eq_getElem?_getD]
    show ((crashD ks d).sure[k]?).getD _ = _
    rw [(hX k hk).1]
    rfl
  · obtain ⟨hk, rfl⟩ := hget k c hc
    exact (hX k hk).2 s hs
theorem SI.read {i : Nat} {d : Dk} {S L : List UInt8} {f : Nat → Nat → Bool} (h : SI i d S L f) {k : Nat} {c : UInt8} (hc : L[k]? = some c) : opRead (k : Int) d = (secS c, 0) := by
  have hk : k < 8 := by
    have := (List.getElem?_eq_some_iff.1 hc).1
    rw [h.ll] at this
    exact this
  rw [opRead_in h.up (by rw [h.len]; exact hk), h.last k c hc]
end Go.Proofs.Yteblobookpldfaa.Se
