/- The first blocks are taken: the law's walk. -/
import Derived.Test.YtidnkckfkgaooaaAlE
namespace Go.Proofs.Ytidnkckfkgaooaa.Al
open Go.RowKit Go.Shelf Go.Proofs Go.Proofs.Ytidnkckfkgaooaa.Ext Go.Proofs.Ytidnkckfkgaooaa.Pure Go.Proofs.YtidnkckfkgaooaaW.PrintWords Go.Proofs.YtidnkckfkgaooaaW.PrintLast Go.Proofs.YtidnkckfkgaooaaW.PrintMore

theorem row_one (w : World) (x y : Int) : ExRow (w.alloc (.cells #[.int .i64 x, .int .i64 y] 43)) (.slice (some ⟨w.heap.size, 0, none⟩) 1 1) [(x, y)] := by
  refine .inr ⟨⟨w.heap.size, 0, none⟩, 1, rfl, fun i z hi => ?_⟩
  match i with
  | 0 =>
    simp only [List.getElem?_cons_zero, Option.some.injEq] at hi
    subst hi
    refine ⟨?_, ?_⟩
    · rw [show (⟨w.heap.size, 0, none⟩ : Addr).add (0 * 2) = ⟨w.heap.size, 0, none⟩ from add_zero _ _, block_cell (alloc_new w _ _ rfl)]
      rfl
    · rw [show (⟨w.heap.size, 0, none⟩ : Addr).add (0 * 2 + 1) = ⟨w.heap.size, 1, none⟩ from add_zero _ _, block_cell (alloc_new w _ _ rfl)]
      rfl
  | i + 1 => simp at hi
theorem newI (w : World) (N : Nat) (h1 : 1 ≤ N) (h2 : N ≤ 4096) : Calls Try.prog 25 #[.int .i64 (N : Int)] w fun e W => ∃ p, e = .returned (.tuple #[.pointer (some ⟨p, 0, none⟩), .int .i64 0]) ∧ TkI w p N (zeroS ((N + 7) / 8)) [] W := by
  refine (new_some N w h1 h2).mono ?_
  rintro e W ⟨p, rfl, hm, hp, hB⟩
  exact ⟨p, rfl, hB, hp, hm, fun x hx => by cases hx⟩
/-- A map of the call's own. -/
structure MI (w : World) (p N : Nat) (s : ByteArray) (W : World) : Prop where
  below : Below w.heap.size w W
  hp : w.heap.size ≤ p
  m : MapAt W p N s
theorem MI.only {w W W' : World} {p N : Nat} {s t : ByteArray} (h : MI w p N s W) (k : OnlyAt p W W') (hm : MapAt W' p N t) : MI w p N t W' := ⟨k.below h.below h.hp h.below.size, h.hp, hm⟩
theorem MI.keepB {w W W' : World} {p N : Nat} {s : ByteArray} (h : MI w p N s W) (hB : Below W.heap.size W W') : MI w p N s W' := ⟨h.below.trans (hB.mono h.below.size), h.hp, h.m.keepB hB⟩
theorem MI.other {w W W' : World} {p p' N : Nat} {s : ByteArray} (h : MI w p N s W) (k : OnlyAt p' W W') (hp : p ≠ p') (h' : w.heap.size ≤ p') : MI w p N s W' :=
  ⟨k.below h.below h' h.below.size, h.hp, by
    have := h.m
    unfold MapAt at *
    rw [k.block _ (lt_of_block this) hp]
    exact this⟩
/-- One given back. -/
theorem MI.give {w W : World} {p N i : Nat} {s : ByteArray} {f : Nat → Bool} (h : MI w p N s W) (hN : N ≤ 4096) (hb : Bits s N f) (hi : i < N) (hf : f i = true) :
    Calls Try.prog 28 #[.pointer (some ⟨p, 0, none⟩), .slice (some ⟨W.heap.size, 0, none⟩) 1 1] (W.alloc (.cells #[.int .i64 (i : Int), .int .i64 1] 43)) fun e W' => e = .returned (.bool true) ∧ MI w p N (setN false (i : Int) 1 s) W' := by
  have h2 := h.keepB ((Below.refl _ _).alloc (Nat.le_refl _) (.cells #[.int .i64 (i : Int), .int .i64 1] 43))
  refine (give_calls _ p N s _ [((i : Int), 1)] h2.m (by omega) hN (by rw [hb.1]; omega) (row_one W i 1) (by simp) (fun x hx => by
    obtain rfl := List.mem_singleton.1 hx
    unfold I64
    simp only
    omega)).mono ?_
  rintro e W' ⟨rfl, hm, hO⟩
  rw [(give_one hb hi hf).1] at hm ⊢
  exact ⟨rfl, h2.only hO hm⟩
theorem MI.take {w W : World} {p N : Nat} {s : ByteArray} (h : MI w p N s W) (hN : N ≤ 4096) (hs : s.size ≤ 1000) (n : Int) (hn : I64 n) (L : List (Int × Int)) (hL : takeL s N n = L) :
    Calls Try.prog 26 #[.pointer (some ⟨p, 0, none⟩), .int .i64 n] W fun e W' => ∃ o c, e = .returned (.tuple #[.slice o L.length c, .bool (decide (0 < L.length))]) ∧ ExRow W' (.slice o L.length c) L ∧ MI w p N (takeS s N n) W' ∧ OnlyAt p W W' := by
  refine (take_calls W p N s n h.m hN hs hn).mono ?_
  rintro e W' ⟨v, rfl, hr, _, hm, hO⟩
  rw [hL] at hr ⊢
  obtain ⟨o, c, rfl⟩ := hr.form
  exact ⟨o, c, rfl, hr, h.only hO hm, hO⟩
theorem MI.copy {w W : World} {p N : Nat} {s : ByteArray} (h : MI w p N s W) (hN : 1 ≤ N) :
    Calls Try.prog 29 #[.pointer (some ⟨p, 0, none⟩)] W fun e W' => ∃ p', e = .returned (.pointer (some ⟨p', 0, none⟩)) ∧ p ≠ p' ∧ MI w p N s W' ∧ MI w p' N s W' := by
  refine (copy_map W p N s h.m hN).mono ?_
  rintro e W' ⟨rfl, hm, hB⟩
  have := lt_of_block h.m
  exact ⟨_, rfl, by omega, h.keepB hB, h.below.trans (hB.mono h.below.size), h.below.size, hm⟩
theorem row_at {W : World} {a : Addr} {n c : Nat} {L : List (Int × Int)} (h : ExRow W (.slice (some a) n c) L) (i : Nat) (x : Int × Int) (hi : L[i]? = some x) : W.cell? (a.add (i * 2)) = some (.int .i64 x.1) ∧ W.cell? ⟨(a.add (i * 2)).block, (a.add (i * 2)).off + 1, none⟩ = some (.int .i64 x.2) := by
  obtain ⟨a', ha, h0, h1⟩ := h.at' i x hi
  obtain rfl := Option.some.inj ha
  rw [← Addr.add_twice] at h1
  exact ⟨h0, h1⟩
theorem add_14 (a : Addr) : a.add (7 * 2) = ⟨a.block, a.off + 14, none⟩ := by
  unfold Addr.add
  simp
def evF (i x : Nat) : Bool := decide (i ≤ x) || x % 2 == 1
theorem evF_step (i x : Nat) (hi : i % 2 = 0) : (if x = i then false else evF i x) = evF (i + 2) x := by
  unfold evF
  by_cases e : x = i
  · subst e
    rw [if_pos rfl, decide_eq_false (by omega), show (x % 2 == 1) = false from by rw [hi]; rfl]
    rfl
  · rw [if_neg e]
    by_cases h : i ≤ x
    · by_cases h2 : i + 2 ≤ x
      · rw [decide_eq_true h, decide_eq_true h2]
      · rw [decide_eq_true h, decide_eq_false h2, show (x % 2 == 1) = true from by rw [show x % 2 = 1 from by omega]; rfl]
        rfl
    · rw [decide_eq_false h, decide_eq_false (by omega)]
theorem Bits.size {s : ByteArray} {N : Nat} {f : Nat → Bool} (h : Bits s N f) : s.size = (N + 7) / 8 := h.1
theorem evF_self (i : Nat) : evF i i = true := by unfold evF; simp
theorem evF_zero (x : Nat) : evF 0 x = true := by unfold evF; simp
theorem evF_odd (i x : Nat) (h : x < i) : evF i x = (x % 2 == 1) := by
  unfold evF
  rw [decide_eq_false (by omega), Bool.false_or]
attribute [local irreducible] takeL takeS giveE setN evF Bits
set_option maxRecDepth 100000 in
set_option maxHeartbeats 20000000 in
theorem allocFirst_calls (w : World) (a0 b0 : Nat) (ha : a0 < 256) (hb : b0 < 256) : Calls Try.prog 7 #[.int .u8 (a0 : Int), .int .u8 (b0 : Int)] w fun e w' => e = .returned (.bool true) ∧ Below w.heap.size w w' := by
  obtain ⟨N, hN⟩ : ∃ N, N = 20 + a0 % 81 := ⟨_, rfl⟩
  obtain ⟨k, hk⟩ : ∃ k, k = 1 + b0 % 20 := ⟨_, rfl⟩
  have e1 : IntKind.i64.wrap (20 + (a0 : Int) % 81) = (N : Int) := by rw [IntKind.wrap_i64]; omega
  have e2 : IntKind.i64.wrap (1 + (b0 : Int) % 20) = (k : Int) := by rw [IntKind.wrap_i64]; omega
  have n1 : 20 ≤ N := by omega
  have n2 : N ≤ 100 := by omega
  have k1 : 1 ≤ k := by omega
  have k2 : k ≤ 20 := by omega
  clear hN hk
  have e3 : IntKind.i64.wrap ((N : Int) - (k : Int)) = ((N - k : Nat) : Int) := by rw [IntKind.wrap_i64]; omega
  have HNW := Lib.hid (newI w N (by omega) (by omega))
  obtain ⟨hL1, hb1⟩ := first_take (bits_zero N) k1 (show k ≤ N by omega)
  have HL1 := Lib.hid hL1
  generalize hs0 : zeroS ((N + 7) / 8) = s0 at *
  have hz0 : s0.size ≤ 1000 := by rw [← hs0, zeroS_size]; omega
  clear hs0 hL1
  have hz1 : (takeS s0 N (k : Int)).size ≤ 1000 := by rw [hb1.size]; omega
  have HS1 := Lib.hid (show takeS s0 N (k : Int) = takeS s0 N (k : Int) from rfl)
  generalize hs1 : takeS s0 N (k : Int) = s1 at *
  have HT1 := Lib.hid hs1
  clear hs1 HS1
  go_enter Try.func7, Try.ntmps7
  by_cases hkN : k < N
  · obtain ⟨hL2, hb2⟩ := second_take hb1 hkN
    have HL2 := Lib.hid hL2
    have hz2 : (takeS s1 N ((N - k : Nat) : Int)).size ≤ 1000 := by rw [hb2.size]; omega
    generalize hs2 : takeS s1 N ((N - k : Nat) : Int) = s2 at *
    have HT2 := Lib.hid hs2
    have HB2 := Lib.hid hb2
    have hc2 := hb2.count
    rw [cntF_all] at hc2
    clear hs2 hL2 hb1 hb2
    have d1 : (k : Int) < (N : Int) := by omega
    generalize hnk : N - k = nk at *
    have d2 : I64 (nk : Int) := by unfold I64; omega
    have d3 : I64 (k : Int) := by unfold I64; omega
    clear hnk
    go_wp2_with (first
      | (go_at_call 25; refine HNW.out.mono ?_; rintro e W0 ⟨p, rfl, hT⟩)
      | (go_at_call 26; refine (hT.take1 (by omega) hz0 k d3 _ _ HL1.out HT1.out).mono ?_; rintro e W1 ⟨a1, c1, rfl, hT1⟩; clear hT)
      | (go_at_call 26; refine (hT1.take1 (by omega) hz1 nk d2 _ _ HL2.out HT2.out).mono ?_; rintro e W2 ⟨a2, c2, rfl, hT2⟩; clear hT1; obtain ⟨f10, f11⟩ := hT2.look (a := a1) (n := 1) (c := c1) (L := [((0 : Int), (k : Int))]) (by simp) rfl 0 _ rfl; obtain ⟨f20, f21⟩ := hT2.look (a := a2) (n := 1) (c := c2) (L := [((k : Int), (nk : Int))]) (by simp) rfl 0 _ rfl; rw [Nat.zero_mul, add_none] at f10 f20 f11 f21; simp only at f10 f11 f20 f21; have HU := Lib.hid (used_map W2 p N s2 hT2.m (by omega)); rw [hc2] at HU; have hM : MI w p N s2 W2 := ⟨hT2.below, hT2.hp, hT2.m⟩; clear hT2)
      | (go_at_call 27; refine HU.out.mono ?_; rintro e w6 ⟨rfl, ⟨d, rfl⟩⟩; have hM2 := hM.keepB (pw_below_drewN (Below.refl _ _) d); clear hM f10 f11 f20 f21 HU; generalize W2.drewN d = W3 at *))
    go_loopg [13] (N + 2) (fun kk v13 wr => ∃ (i : Nat) (s : ByteArray), v13 = .int .i64 (i : Int) ∧ i % 2 = 0 ∧ i ≤ N + 1 ∧ s.size ≤ 1000 ∧ Aside0 (Bits s N (evF i)) ∧ MI w p N s wr ∧ kk = N + 2 - i)
    case atStart => exact ⟨0, s2, rfl, rfl, by omega, hz2, ⟨HB2.out.congr fun x _ => (evF_zero x).symm⟩, hM2, rfl⟩
    case round =>
      clear hM2
      obtain ⟨i, s, rfl, hi2, hi, hsz, HBi, hM, rfl⟩ := hrel
      by_cases hil : i < N
      · have c1 : (i : Int) < (N : Int) := by omega
        have HG := Lib.hid (hM.give (by omega) HBi.out hil (evF_self i))
        have HN := Lib.hid (show Bits (setN false (i : Int) 1 s) N (evF (i + 2)) from (give_one HBi.out hil (evF_self i)).2.congr fun x _ => evF_step i x hi2)
        clear hM
        go_wp2_with (go_at_call 28; refine HG.out.mono ?_; rintro e w8 ⟨rfl, hM8⟩)
        go_roundg (N + 2 - (i + 2))
        case measure => omega
        case rel => exact ⟨i + 2, _, by simp, by omega, by omega, by rw [HN.out.size]; omega, ⟨HN.out⟩, hM8, rfl⟩
      · have c1 : ¬ (i : Int) < (N : Int) := by omega
        have hO : Bits s N (fun x => x % 2 == 1) := HBi.out.congr fun x hx => evF_odd i x (by omega)
        have HL9 := Lib.hid (take_nine hO n1)
        have HL8 := Lib.hid (take_eight hO n1)
        clear hO
        have HC := Lib.hid (hM.copy (by omega))
        clear hM
        go_wp2_with (first
          | (go_at_call 29; refine HC.out.mono ?_; rintro e w8 ⟨p', rfl, hpp, hM8, hC8⟩)
          | (go_at_call 26; refine (hC8.take (by omega) hsz 9 (by unfold I64; omega) _ HL9.out).mono ?_; rintro e w9 ⟨o9, c9, rfl, _, _, hO9⟩; have hM9 := hM8.other hO9 hpp hC8.hp; clear hM8 hC8)
          | (go_at_call 26; refine (hM9.take (by omega) hsz 8 (by unfold I64; omega) _ HL8.out).mono ?_; rintro e w10 ⟨o10, c10, rfl, hr, hM10, _⟩; obtain ⟨a10, rfl, _⟩ := hr.at' 0 (0, 1) rfl; obtain ⟨g0, g1⟩ := row_at hr 7 (14, 1) rfl; rw [add_14] at g0 g1; simp only at g0 g1; clear hr hM9)
          | (go_at_call 30; refine (took_calls _).mono ?_; rintro e w11 ⟨rfl, hB11⟩))
        go_ret
        exact ⟨rfl, hM10.below.trans (hB11.mono hM10.below.size)⟩
  · obtain rfl : k = N := by omega
    have hb2 : Bits s1 k (fun _ => true) := hb1.congr fun i hi => decide_eq_true hi
    have HB2 := Lib.hid hb2
    have hc2 := hb2.count
    rw [cntF_all] at hc2
    have hl0 : takeL s1 k 0 = [] := by unfold takeL; rw [if_pos (.inl (by omega))]
    have HL2 := Lib.hid hl0
    have HT2 := Lib.hid (show takeS s1 k 0 = s1 by unfold takeS; rw [hl0]; rfl)
    clear hb1 hb2 hl0
    have d1 : ¬ (k : Int) < (k : Int) := by omega
    rw [show k - k = 0 from by omega, show ((0 : Nat) : Int) = 0 from rfl] at e3
    have d3 : I64 (k : Int) := by unfold I64; omega
    have d2 : I64 (0 : Int) := by unfold I64; omega
    go_wp2_with (first
      | (go_at_call 25; refine HNW.out.mono ?_; rintro e W0 ⟨p, rfl, hT⟩)
      | (go_at_call 26; refine (hT.take1 (by omega) hz0 k d3 _ _ HL1.out HT1.out).mono ?_; rintro e W1 ⟨a1, c1, rfl, hT1⟩; clear hT)
      | (go_at_call 26; refine (hT1.take (by omega) hz1 0 d2 _ HL2.out HT2.out).mono ?_; rintro e W2 ⟨o2, c2, rfl, hT2⟩; clear hT1; obtain ⟨f10, f11⟩ := hT2.look (a := a1) (n := 1) (c := c1) (L := [((0 : Int), (k : Int))]) (by simp) rfl 0 _ rfl; rw [Nat.zero_mul, add_none] at f10 f11; simp only at f10 f11; have HU := Lib.hid (used_map W2 p k s1 hT2.m (by omega)); rw [hc2] at HU; have hM : MI w p k s1 W2 := ⟨hT2.below, hT2.hp, hT2.m⟩; clear hT2)
      | (go_at_call 27; refine HU.out.mono ?_; rintro e w6 ⟨rfl, ⟨d, rfl⟩⟩; have hM2 := hM.keepB (pw_below_drewN (Below.refl _ _) d); clear hM f10 f11 HU; generalize W2.drewN d = W3 at *))
    go_loopg [13] (k + 2) (fun kk v13 wr => ∃ (i : Nat) (s : ByteArray), v13 = .int .i64 (i : Int) ∧ i % 2 = 0 ∧ i ≤ k + 1 ∧ s.size ≤ 1000 ∧ Aside0 (Bits s k (evF i)) ∧ MI w p k s wr ∧ kk = k + 2 - i)
    case atStart => exact ⟨0, s1, rfl, rfl, by omega, hz1, ⟨HB2.out.congr fun x _ => (evF_zero x).symm⟩, hM2, rfl⟩
    case round =>
      clear hM2
      obtain ⟨i, s, rfl, hi2, hi, hsz, HBi, hM, rfl⟩ := hrel
      by_cases hil : i < k
      · have c1 : (i : Int) < (k : Int) := by omega
        have HG := Lib.hid (hM.give (by omega) HBi.out hil (evF_self i))
        have HN := Lib.hid (show Bits (setN false (i : Int) 1 s) k (evF (i + 2)) from (give_one HBi.out hil (evF_self i)).2.congr fun x _ => evF_step i x hi2)
        clear hM
        go_wp2_with (go_at_call 28; refine HG.out.mono ?_; rintro e w8 ⟨rfl, hM8⟩)
        go_roundg (k + 2 - (i + 2))
        case measure => omega
        case rel => exact ⟨i + 2, _, by simp, by omega, by omega, by rw [HN.out.size]; omega, ⟨HN.out⟩, hM8, rfl⟩
      · have c1 : ¬ (i : Int) < (k : Int) := by omega
        have hO : Bits s k (fun x => x % 2 == 1) := HBi.out.congr fun x hx => evF_odd i x (by omega)
        have HL9 := Lib.hid (take_nine hO n1)
        have HL8 := Lib.hid (take_eight hO n1)
        clear hO
        have HC := Lib.hid (hM.copy (by omega))
        clear hM
        go_wp2_with (first
          | (go_at_call 29; refine HC.out.mono ?_; rintro e w8 ⟨p', rfl, hpp, hM8, hC8⟩)
          | (go_at_call 26; refine (hC8.take (by omega) hsz 9 (by unfold I64; omega) _ HL9.out).mono ?_; rintro e w9 ⟨o9, c9, rfl, _, _, hO9⟩; have hM9 := hM8.other hO9 hpp hC8.hp; clear hM8 hC8)
          | (go_at_call 26; refine (hM9.take (by omega) hsz 8 (by unfold I64; omega) _ HL8.out).mono ?_; rintro e w10 ⟨o10, c10, rfl, hr, hM10, _⟩; obtain ⟨a10, rfl, _⟩ := hr.at' 0 (0, 1) rfl; obtain ⟨g0, g1⟩ := row_at hr 7 (14, 1) rfl; rw [add_14] at g0 g1; simp only at g0 g1; clear hr hM9)
          | (go_at_call 30; refine (took_calls _).mono ?_; rintro e w11 ⟨rfl, hB11⟩))
        go_ret
        exact ⟨rfl, hM10.below.trans (hB11.mono hM10.below.size)⟩
theorem nat_u8 {z : Int} (h : (Lit.int .u8 z).wf = true) : ∃ n : Nat, z = (n : Int) ∧ n < 256 := by
  have hz : 0 ≤ z ∧ z < 256 := by
    simp only [Lit.wf, IntKind.min, IntKind.max, IntKind.signed, IntKind.bits, Bool.and_eq_true] at h
    simp at h
    omega
  exact ⟨z.toNat, by omega, by omega⟩
theorem allocFirst_walk (w : World) (a b : Int) (ha : (Lit.int .u8 a).wf = true) (hb : (Lit.int .u8 b).wf = true) : Calls Try.prog 7 #[.int .u8 a, .int .u8 b] w fun e w' => e = .returned (.bool true) ∧ Below w.heap.size w w' := by
  obtain ⟨n, rfl, hn⟩ := nat_u8 ha
  obtain ⟨m, rfl, hm⟩ := nat_u8 hb
  exact allocFirst_calls w n m hn hm
end Go.Proofs.Ytidnkckfkgaooaa.Al
