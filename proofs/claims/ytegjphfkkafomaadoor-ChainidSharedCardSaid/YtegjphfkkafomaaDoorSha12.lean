/- The reference's filled text, and hashes by evaluation. -/
import Derived.Test.YtegjphfkkafomaaDoorSha9
namespace Go.Proofs.YtegjphfkkafomaaDoor.Sha
open Go.RowKit Go.Proofs Go.Proofs.YtegjphfkkafomaaDoor.Q Go.Proofs.YtegjphfkkafomaaDoorW.PrintWords Go.Proofs.YtegjphfkkafomaaDoorW.PrintLast Go.Proofs.YtegjphfkkafomaaDoorW.PrintMore

theorem byN_append (s t : ByteArray) : byN (s ++ t) = byN s ++ byN t := by
  unfold byN
  simp
theorem byN_nums (l : List Nat) (h : ∀ x ∈ l, x < 256) : byN (strOfNums (l.map fun x : Nat => (x : Int))) = l := by
  unfold byN
  rw [strOfNums_data, List.map_map, List.map_map]
  induction l with
  | nil => rfl
  | cons x r ih =>
    rw [List.map_cons, ih fun y hy => h y (List.mem_cons_of_mem _ hy)]
    congr 1
    have := h x List.mem_cons_self
    show (UInt8.ofNat ((x : Int)).toNat).toNat = x
    rw [Int.toNat_natCast, UInt8.toNat_ofNat_of_lt' (by omega)]

theorem filled_step (k : Nat) (t : ByteArray) (n : Nat) (x5 : List Int) (i : Nat) (hn : n < 18446744073709551616) (hi : i < 8) (hl : x5.length ≤ 8) :
    lighterref04_filled.l1 (k + 1) t (n : Int) x5 (i : Int) = lighterref04_filled.l1 k t ((n / 256 : Nat) : Int) (((n % 256 : Nat) : Int) :: x5) ((i + 1 : Nat) : Int) := by
  have h1 : Int.tmod (n : Int) 256 % 256 = ((n % 256 : Nat) : Int) := by rw [Int.tmod_eq_emod_of_nonneg (by omega)]; omega
  have h2 : IntKind.u64.wrap (Int.tdiv (n : Int) 256) = ((n / 256 : Nat) : Int) := by rw [Int.tdiv_eq_ediv_of_nonneg (by omega), IntKind.wrap_u64]; omega
  have h3 : wrap64 ((i : Int) + 1) = ((i + 1 : Nat) : Int) := by rw [wrap64]; omega
  rw [lighterref04_filled.l1, if_pos (by omega), Option.bind_some, h1, h2, h3, if_pos (by simp; omega)]
  rfl
theorem filled_end (k : Nat) (t : ByteArray) (n : Nat) (x5 : List Int) (ht : t.size ≤ 2000000000) (hl : x5.length = 8) :
    lighterref04_filled.l1 (k + 1) t (n : Int) x5 ((8 : Nat) : Int) = some (t ++ strOfNums x5) := by
  rw [lighterref04_filled.l1, if_neg (by decide), if_pos (by rw [strOfNums_size]; omega)]
theorem filled_len (k : Nat) (t : ByteArray) (z : Nat) (ht : t.size ≤ 2000000000) (hz : z ≤ 1000000000) :
    lighterref04_filled.l1 (k + 9) t (IntKind.u64.wrap (IntKind.u64.wrap (z : Int) * 8)) [] 0 = some (t ++ strOfNums ((lens z).map fun x : Nat => (x : Int))) := by
  have h0 : IntKind.u64.wrap (IntKind.u64.wrap (z : Int) * 8) = ((z * 8 : Nat) : Int) := by simp only [IntKind.wrap_u64]; omega
  rw [h0, show (0 : Int) = ((0 : Nat) : Int) from rfl]
  rw [filled_step _ _ _ _ _ (by omega) (by decide) (Nat.le_of_ble_eq_true rfl), filled_step _ _ _ _ _ (by omega) (by decide) (Nat.le_of_ble_eq_true rfl), filled_step _ _ _ _ _ (by omega) (by decide) (Nat.le_of_ble_eq_true rfl), filled_step _ _ _ _ _ (by omega) (by decide) (Nat.le_of_ble_eq_true rfl),
    filled_step _ _ _ _ _ (by omega) (by decide) (Nat.le_of_ble_eq_true rfl), filled_step _ _ _ _ _ (by omega) (by decide) (Nat.le_of_ble_eq_true rfl), filled_step _ _ _ _ _ (by omega) (by decide) (Nat.le_of_ble_eq_true rfl), filled_step _ _ _ _ _ (by omega) (by decide) (Nat.le_of_ble_eq_true rfl)]
  rw [filled_end _ _ _ _ ht rfl]
  unfold lens lenB
  simp only [Nat.div_div_eq_div_mul, Nat.reduceMul, Nat.reducePow, Nat.div_one, List.map_cons, List.map_nil]

theorem lens_lt (z : Nat) : ∀ x ∈ lens z, x < 256 := by
  intro x h
  simp only [lens, List.mem_cons, List.not_mem_nil, or_false] at h
  unfold lenB at h
  omega
theorem filled_zeros (a : ByteArray) (ha : a.size ≤ 1000000000) : ∀ (j : Nat) (t : ByteArray), t.size + j ≤ 1500000000 → j < 64 → (t.size + j) % 64 = 56 → ∃ r, lighterref04_filled.l0 (j + 10) a t = some r ∧ byN r = byN t ++ List.replicate j 0 ++ lens a.size
  | 0, t, h1, _, h3 => by
    refine ⟨t ++ strOfNums ((lens a.size).map fun x : Nat => (x : Int)), ?_, ?_⟩
    · rw [lighterref04_filled.l0, if_pos (by omega)]
      exact filled_len 0 t a.size (by omega) ha
    · rw [byN_append, byN_nums _ (lens_lt _)]
      simp
  | j + 1, t, h1, h2, h3 => by
    have hs : (t ++ (⟨#[0]⟩ : ByteArray)).size = t.size + 1 := by rw [ByteArray.size_append]; rfl
    obtain ⟨r, h4, h5⟩ := filled_zeros a ha j (t ++ (⟨#[0]⟩ : ByteArray)) (by omega) (by omega) (by omega)
    refine ⟨r, ?_, ?_⟩
    · rw [show j + 1 + 10 = (j + 10) + 1 from by omega, lighterref04_filled.l0, if_neg (by omega), if_pos (by omega)]
      exact h4
    · rw [h5, byN_append, List.replicate_succ]
      simp [byN]
/-- The filled text. -/
theorem filled_eq (a : ByteArray) (ha : a.size ≤ 1000000000) : ∃ k r, lighterref04_filled.f k a = some r ∧ byN r = byN a ++ endN (a.size % 64) a.size := by
  have hs : (a ++ (⟨#[128]⟩ : ByteArray)).size = a.size + 1 := by rw [ByteArray.size_append]; rfl
  obtain ⟨r, h4, h5⟩ := filled_zeros a ha ((119 - a.size % 64) % 64) (a ++ (⟨#[128]⟩ : ByteArray)) (by omega) (by omega) (by omega)
  refine ⟨(119 - a.size % 64) % 64 + 10, r, ?_, ?_⟩
  · rw [lighterref04_filled.f, if_pos (by omega)]
    exact h4
  · rw [h5, byN_append]
    unfold endN lens
    simp [byN]

/-! Evaluation. -/
def forceN {α : Type} (n : Nat) (f : Nat → α) : α := Nat.rec (motive := fun _ => α) (f 0) (fun m _ => f (m + 1)) n
theorem forceN_eq {α : Type} (n : Nat) (f : Nat → α) : forceN n f = f n := by
  cases n <;> rfl
/-- The rounds, over their numbers, with the last sixteen numbers, the last ahead. -/
def evR : List Nat → Nat → Nat → Nat → Nat → Nat → Nat → Nat → Nat → List Nat → NS
  | [], a, b, c, d, e, f, g, h, _ => ⟨a, b, c, d, e, f, g, h⟩
  | k :: ks, a, b, c, d, e, f, g, h, ws =>
    forceN (ws.headD 0) fun x =>
    forceN (h + ((rotN e 6 ^^^ rotN e 11) ^^^ rotN e 25) + (g ^^^ (e &&& (f ^^^ g))) + k + x) fun t =>
    forceN ((t + (((rotN a 2 ^^^ rotN a 13) ^^^ rotN a 22) + ((a &&& b) ||| (c &&& (a ||| b))))) % 4294967296) fun a' =>
    forceN ((d + t) % 4294967296) fun e' => evR ks a' a b c e' e f g ws.tail
def evS : Nat → List Nat → List Nat
  | 0, l => l.reverse
  | n + 1, l => forceN (nextW (l.getD 15 0) (l.getD 14 0) (l.getD 6 0) (l.getD 1 0)) fun x => evS n (x :: l)
def words16 (l : List Nat) : List Nat := (List.range 16).map fun i => word (fB l) i
theorem evR_eq (b : Nat → Nat) (s : NS) : ∀ (n i : Nat) (ws : List Nat), i + n = 64 → (∀ j, j < n → ws[j]? = some (W b (i + j))) →
    evR (KS.drop i) (nows b s i).a (nows b s i).b (nows b s i).c (nows b s i).d (nows b s i).e (nows b s i).f (nows b s i).g (nows b s i).h ws = nows b s 64
  | 0, i, ws, h, hw => by
    obtain rfl : i = 64 := by omega
    rfl
  | n + 1, i, ws, h, hw => by
    have hk : KS.drop i = kk i :: KS.drop (i + 1) := by
      have h1 : i < KS.length := by show i < 64; omega
      rw [List.drop_eq_getElem_cons h1]
      unfold kk
      rw [List.getD_eq_getElem?_getD, List.getElem?_eq_getElem h1]
      rfl
    have h0 : ws.headD 0 = W b i := by
      have := hw 0 (by omega)
      cases ws with
      | nil => cases this
      | cons x r => exact Option.some.inj this
    rw [hk]
    unfold evR
    simp only [forceN_eq]
    rw [h0]
    exact evR_eq b s n (i + 1) ws.tail (by omega) (fun j hj => by
      have := hw (j + 1) (by omega)
      rw [show i + 1 + j = i + (j + 1) from by omega, ← this]
      cases ws <;> rfl)
theorem evS_eq (b : Nat → Nat) : ∀ n m, 16 ≤ m → evS n (sch b m) = (sch b (m + n)).reverse
  | 0, m, _ => rfl
  | n + 1, m, h => by
    unfold evS
    rw [forceN_eq]
    have h1 : nextW ((sch b m).getD 15 0) ((sch b m).getD 14 0) ((sch b m).getD 6 0) ((sch b m).getD 1 0) :: sch b m = sch b (m + 1) := by
      show _ = (if m < 16 then word b m else _) :: sch b m
      rw [if_neg (by omega)]
    rw [h1, evS_eq b n (m + 1) (by omega), show m + 1 + n = m + (n + 1) from by omega]
theorem sch_length (b : Nat → Nat) : ∀ n, (sch b n).length = n
  | 0 => rfl
  | n + 1 => by rw [sch_cons, List.length_cons, sch_length b n]
theorem sch_rev (b : Nat → Nat) : ∀ n j, j < n → (sch b n).reverse[j]? = some (W b j)
  | 0, j, h => by omega
  | n + 1, j, h => by
    rw [sch_cons, List.reverse_cons]
    by_cases hj : j < n
    · rw [List.getElem?_append_left (by rw [List.length_reverse, sch_length]; exact hj)]
      exact sch_rev b n j hj
    · obtain rfl : j = n := by omega
      rw [List.getElem?_append_right (by rw [List.length_reverse, sch_length]; exact Nat.le_refl _), List.length_reverse, sch_length, Nat.sub_self]
      rfl
/-- A block, by evaluation. -/
def evB (s : NS) (b : Nat → Nat) : NS := addN s (evR KS s.a s.b s.c s.d s.e s.f s.g s.h (evS 48 [word b 15, word b 14, word b 13, word b 12, word b 11, word b 10, word b 9, word b 8, word b 7, word b 6, word b 5, word b 4, word b 3, word b 2, word b 1, word b 0]))
theorem evB_eq (s : NS) (b : Nat → Nat) : blockN s b = evB s b := by
  unfold blockN evB
  rw [show [word b 15, word b 14, word b 13, word b 12, word b 11, word b 10, word b 9, word b 8, word b 7, word b 6, word b 5, word b 4, word b 3, word b 2, word b 1, word b 0] = sch b 16 from rfl]
  rw [evS_eq b 48 16 (Nat.le_refl _)]
  congr 1
  exact (evR_eq b s 64 0 (sch b 64).reverse rfl (fun j hj => by rw [Nat.zero_add]; exact sch_rev b 64 j hj)).symm
def noneD : List Nat := [0xe3, 0xb0, 0xc4, 0x42, 0x98, 0xfc, 0x1c, 0x14, 0x9a, 0xfb, 0xf4, 0xc8, 0x99, 0x6f, 0xb9, 0x24, 0x27, 0xae, 0x41, 0xe4, 0x64, 0x9b, 0x93, 0x4c, 0xa4, 0x95, 0x99, 0x1b, 0x78, 0x52, 0xb8, 0x55]
def abcD : List Nat := [0xba, 0x78, 0x16, 0xbf, 0x8f, 0x01, 0xcf, 0xea, 0x41, 0x41, 0x40, 0xde, 0x5d, 0xae, 0x22, 0x23, 0xb0, 0x03, 0x61, 0xa3, 0x96, 0x17, 0x7a, 0x9c, 0xb4, 0x10, 0xff, 0x61, 0xf2, 0x00, 0x15, 0xad]
theorem fill_none : endN 0 0 = 128 :: List.replicate 63 0 := by kernel_rfl
theorem sum_empty : sumN [] 0 = noneD := by
  unfold sumN
  rw [List.nil_append, show (([] : List Nat).length % 64) = 0 from rfl, fill_none]
  show dig (blockN beginN (fun i => fB (128 :: List.replicate 63 0) (64 * 0 + i))) = _
  rw [evB_eq]
  kernel_rfl
theorem sum_abc : sumN [97, 98, 99] 3 = abcD := by
  unfold sumN
  rw [show [97, 98, 99] ++ endN ([97, 98, 99].length % 64) 3 = [97, 98, 99, 128] ++ List.replicate 59 0 ++ [24] from by kernel_rfl]
  show dig (blockN beginN (fun i => fB ([97, 98, 99, 128] ++ List.replicate 59 0 ++ [24]) (64 * 0 + i))) = _
  rw [evB_eq]
  kernel_rfl
end Go.Proofs.YtegjphfkkafomaaDoor.Sha
