/- What BitsMap's plain function answers: true, for every text, every place, every number. -/
import Derived.Test.YtidnkckfkgaooaaBitsD
namespace Go.Proofs.Ytidnkckfkgaooaa.Pure
open Go.RowKit Go.Proofs.Ytidnkckfkgaooaa.Q Go.Proofs.Ytidnkckfkgaooaa.Ext Go.Proofs.YtidnkckfkgaooaaW.PrintWords Go.Proofs.YtidnkckfkgaooaaW.PrintLast Go.Proofs.YtidnkckfkgaooaaW.PrintMore

theorem map_round (s : ByteArray) (i n at' many : Int) (j : Nat) (hs : s.size ≤ 30) (ha : I64 at') (hm : I64 many) (hj : j < 4) (h : Ev (fun k => lighterlaw02_BitsMap.l0 k s i n ((j + 1 : Nat) : Int)) true) :
    Ev (fun k => lighterlaw02_BitsMap.j1 k s i n (j : Int) at' many) true := by
  obtain ⟨K1, hK1⟩ := refHas_ok s at' (by omega) ha
  obtain ⟨K2, hK2⟩ := refWith_ok s at' true (by omega)
  obtain ⟨K3, hK3⟩ := refWith_ok s at' false (by omega)
  obtain ⟨K4, hK4⟩ := refRun_ok s at' many (by omega) ha hm
  obtain ⟨K5, hK5⟩ := h
  refine ⟨K1 + K2 + K3 + K4 + K5 + 1, fun k hk => ?_⟩
  obtain ⟨k, rfl⟩ : ∃ m, k = m + 1 := ⟨k - 1, by omega⟩
  have g1 := hK1 k (by omega)
  have g2 := hK2 k (by omega)
  have g3 := hK3 k (by omega)
  have g4 := hK4 k (by omega)
  have g5 := hK5 k (by omega)
  simp only at g1 g2 g3 g4 g5
  show lighterlaw02_BitsMap.j1 (k + 1) _ _ _ _ _ _ = _
  simp only [lighterlaw02_BitsMap.j1]
  rw [has_ok s at' (by omega) ha, Option.bind_some, g1, Option.bind_some, if_neg (by simp), with_ok s at' true ha, Option.bind_some, g2, Option.bind_some, if_pos rfl, with_ok s at' false ha, Option.bind_some, g3, Option.bind_some, if_pos rfl,
    run_ok s at' many (by omega) ha, Option.bind_some, g4, Option.bind_some, if_pos rfl, wrap_succ j (by omega)]
  exact g5

theorem and_small (x : Int) (m : Nat) (hm : m < 9223372036854775808) : 0 ≤ Go.bits .and .i64 x (m : Int) ∧ Go.bits .and .i64 x (m : Int) ≤ m := by
  unfold Go.bits
  have e : (BitVec.ofInt 64 (m : Int)).toNat = m := by
    rw [BitVec.toNat_ofInt]
    omega
  have h : (BitVec.ofInt 64 x &&& BitVec.ofInt 64 (m : Int)).toNat ≤ m := by
    rw [BitVec.toNat_and, e]
    exact Nat.and_le_right
  show 0 ≤ IntKind.i64.wrap ((BitVec.ofInt 64 x &&& BitVec.ofInt 64 (m : Int)).toNat : Int) ∧ IntKind.i64.wrap ((BitVec.ofInt 64 x &&& BitVec.ofInt 64 (m : Int)).toNat : Int) ≤ m
  rw [IntKind.wrap_i64]
  omega

theorem map_loop (s : ByteArray) (i n : Int) (hs : s.size ≤ 30) (hi : I64 i) (hn : I64 n) (d : Nat) : ∀ j : Nat, j + d = 4 → Ev (fun k => lighterlaw02_BitsMap.l0 k s i n (j : Int)) true := by
  induction d with
  | zero =>
    intro j hj
    obtain rfl : j = 4 := by omega
    obtain ⟨K1, hK1⟩ := count_ok s (by omega)
    obtain ⟨K2, hK2⟩ := refCount_ok s (by omega)
    obtain ⟨K3, hK3⟩ := shown_bind
    refine ⟨K1 + K2 + K3 + 1, fun k hk => ?_⟩
    obtain ⟨k, rfl⟩ : ∃ m, k = m + 1 := ⟨k - 1, by omega⟩
    have g1 := hK1 k (by omega)
    have g2 := hK2 k (by omega)
    have g3 := hK3 k (by omega)
    simp only at g1 g2 g3
    show lighterlaw02_BitsMap.l0 (k + 1) _ _ _ _ = _
    simp only [lighterlaw02_BitsMap.l0]
    rw [if_neg (by decide), g1, Option.bind_some, g2, Option.bind_some, if_pos rfl, g3]
  | succ d ih =>
    intro j hj
    have hnext := ih (j + 1) (by omega)
    by_cases h0 : j = 0
    · subst h0
      obtain ⟨K, hK⟩ := map_round s i n i n 0 hs hi hn (by decide) hnext
      refine ⟨K + 1, fun k hk => ?_⟩
      obtain ⟨k, rfl⟩ : ∃ m, k = m + 1 := ⟨k - 1, by omega⟩
      have g := hK k (by omega)
      simp only at g
      show lighterlaw02_BitsMap.l0 (k + 1) _ _ _ _ = _
      simp only [lighterlaw02_BitsMap.l0]
      rw [if_pos (by decide), if_neg (by decide)]
      exact g
    · obtain ⟨a0, a1⟩ := and_small i 255 (by decide)
      obtain ⟨b0, b1⟩ := and_small n 15 (by decide)
      have a0' : 0 ≤ Go.bits .and .i64 i 255 := a0
      have a1' : Go.bits .and .i64 i 255 ≤ 255 := a1
      have b0' : 0 ≤ Go.bits .and .i64 n 15 := b0
      have b1' : Go.bits .and .i64 n 15 ≤ 15 := b1
      have m1 : 0 ≤ Go.bits .and .i64 i 255 * (j : Int) := Int.mul_nonneg a0' (by omega)
      have m2 : Go.bits .and .i64 i 255 * (j : Int) ≤ 255 * 4 := Int.mul_le_mul a1' (by omega) (by omega) (by decide)
      have m3 : 0 ≤ Go.bits .and .i64 n 15 * (j : Int) := Int.mul_nonneg b0' (by omega)
      have m4 : Go.bits .and .i64 n 15 * (j : Int) ≤ 15 * 4 := Int.mul_le_mul b1' (by omega) (by omega) (by decide)
      have wf : ∀ x : Int, I64 (wrap64 x) := fun x => by unfold I64 wrap64; omega
      obtain ⟨K, hK⟩ := map_round s i n (wrap64 (Int.tdiv (wrap64 ((Go.bits .and .i64 i 255) * (j : Int))) 3)) (wrap64 (1 + (wrap64 (Int.tdiv (wrap64 ((Go.bits .and .i64 n 15) * (j : Int))) 2)))) j hs (wf _) (wf _) (by omega) hnext
      refine ⟨K + 1, fun k hk => ?_⟩
      obtain ⟨k, rfl⟩ : ∃ m, k = m + 1 := ⟨k - 1, by omega⟩
      have g := hK k (by omega)
      simp only at g
      show lighterlaw02_BitsMap.l0 (k + 1) _ _ _ _ = _
      simp only [lighterlaw02_BitsMap.l0]
      rw [if_pos (by omega), if_pos (by omega)]
      exact g

theorem BitsMap : lighterlaw02_BitsMap.Pure := by
  intro s i n _ hi hn
  refine Ev.rounds ?_
  by_cases h : (s.size : Int) > 30
  · refine Ev.congr (f := fun k => (lighterlaw02_shown.f k).bind fun t => some t) (fun k => ?_) shown_bind
    unfold lighterlaw02_BitsMap.f
    rw [if_pos h]
  · refine Ev.congr (fun k => ?_) (map_loop s i n (by omega) (i64_of_wf hi) (i64_of_wf hn) 4 0 rfl)
    unfold lighterlaw02_BitsMap.f
    rw [if_neg h]
    rfl

end Go.Proofs.Ytidnkckfkgaooaa.Pure
