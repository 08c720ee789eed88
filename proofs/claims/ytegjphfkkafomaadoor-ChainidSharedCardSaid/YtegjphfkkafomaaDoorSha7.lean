/- Sum: the program's walk. -/
import Derived.Test.YtegjphfkkafomaaDoorSha6
namespace Go.Proofs.YtegjphfkkafomaaDoor.Sha
open Go.RowKit Go.Proofs Go.Proofs.YtegjphfkkafomaaDoor.Q Go.Proofs.YtegjphfkkafomaaDoorW.PrintWords Go.Proofs.YtegjphfkkafomaaDoorW.PrintLast Go.Proofs.YtegjphfkkafomaaDoorW.PrintMore

/-- One byte of the length in bits. -/
def lenB (z i : Nat) : Nat := z * 8 / 2 ^ i % 256
/-- What comes behind the bytes. -/
def endN (r z : Nat) : List Nat := 128 :: List.replicate ((119 - r) % 64) 0 ++ [lenB z 56, lenB z 48, lenB z 40, lenB z 32, lenB z 24, lenB z 16, lenB z 8, lenB z 0]
def lens (z : Nat) : List Nat := [lenB z 56, lenB z 48, lenB z 40, lenB z 32, lenB z 24, lenB z 16, lenB z 8, lenB z 0]
/-- Four bytes of a number. -/
def b24 (n : Nat) : Nat := n / 16777216 % 256
def b16 (n : Nat) : Nat := n / 65536 % 256
def b8 (n : Nat) : Nat := n / 256 % 256
def b0 (n : Nat) : Nat := n % 256
def four (n : Nat) : List Nat := [b24 n, b16 n, b8 n, b0 n]
/-- The bytes of eight numbers. -/
def dig (s : NS) : List Nat := four s.a ++ four s.b ++ four s.c ++ four s.d ++ four s.e ++ four s.f ++ four s.g ++ four s.h
/-- The hash, of these bytes, so many. -/
def sumN (l : List Nat) (z : Nat) : List Nat := dig (stN (fB (l ++ endN (l.length % 64) z)) ((l ++ endN (l.length % 64) z).length / 64))
def zero32 : Array Value := Array.replicate 32 (.int .u8 0)
/-- A digest as a value. -/
def digV (l : List Nat) : Value := .agg (cells8 l).toArray

theorem new_size (w : World) (o : Obj) : (w.alloc o).heap.size = w.heap.size + 1 := by simp
theorem lens_take (z : Nat) : ∀ t, t < 8 → (lens z).take (t + 1) = (lens z).take t ++ [lenB z (56 - 8 * t)]
  | 0, _ => rfl
  | 1, _ => rfl
  | 2, _ => rfl
  | 3, _ => rfl
  | 4, _ => rfl
  | 5, _ => rfl
  | 6, _ => rfl
  | 7, _ => rfl
  | _ + 8, h => by omega
theorem len_end (j t z : Nat) (ht : t ≤ 8) : (128 :: List.replicate j 0 ++ (lens z).take t).length = j + 1 + t := by
  have : (lens z).length = 8 := rfl
  rw [List.length_append, List.length_cons, List.length_replicate, List.length_take, this]
  omega
theorem lenB_cast (z i : Nat) : (z : Int) * 8 / 2 ^ i % 256 = ((lenB z i : Nat) : Int) := by
  unfold lenB
  rw [Int.natCast_emod, Int.natCast_ediv, Int.natCast_mul, Int.natCast_pow]
  rfl
theorem endN_lt (r z : Nat) : ∀ x ∈ endN r z, x < 256 := by
  intro x hx
  unfold endN at hx
  rcases List.mem_append.1 hx with h | h
  · rcases List.mem_cons.1 h with rfl | h
    · decide
    · rw [List.eq_of_mem_replicate h]
      decide
  · simp only [List.mem_cons, List.not_mem_nil, or_false] at h
    unfold lenB at h
    omega
theorem b24_cast (n : Nat) : (n : Int) / 16777216 % 256 = ((b24 n : Nat) : Int) := rfl
theorem b16_cast (n : Nat) : (n : Int) / 65536 % 256 = ((b16 n : Nat) : Int) := rfl
theorem b8_cast (n : Nat) : (n : Int) / 256 % 256 = ((b8 n : Nat) : Int) := rfl
theorem b0_cast (n : Nat) : (n : Int) % 256 = ((b0 n : Nat) : Int) := rfl
def nth (s : NS) : Nat → Nat
  | 0 => s.a
  | 1 => s.b
  | 2 => s.c
  | 3 => s.d
  | 4 => s.e
  | 5 => s.f
  | 6 => s.g
  | _ => s.h
/-- The digest's cells behind so many numbers. -/
def digC (s : NS) : Nat → Array Value
  | 0 => zero32
  | i + 1 => ((((digC s i).setIfInBounds (4 * i) (.int .u8 (b24 (nth s i) : Int))).setIfInBounds (4 * i + 1) (.int .u8 (b16 (nth s i) : Int))).setIfInBounds (4 * i + 2) (.int .u8 (b8 (nth s i) : Int))).setIfInBounds (4 * i + 3) (.int .u8 (b0 (nth s i) : Int))
theorem digC_size (s : NS) : ∀ i, (digC s i).size = 32
  | 0 => rfl
  | i + 1 => by
    unfold digC
    simp only [Array.size_setIfInBounds]
    exact digC_size s i
theorem digC_all (s : NS) : digC s 8 = (cells8 (dig s)).toArray := by kernel_rfl
theorem index51 (s : NS) : ∀ i : Nat, i < 8 → ∀ w : World, (Instr.index 51 (.agg #[.int .u32 (s.a : Int), .int .u32 (s.b : Int), .int .u32 (s.c : Int), .int .u32 (s.d : Int), .int .u32 (s.e : Int), .int .u32 (s.f : Int), .int .u32 (s.g : Int), .int .u32 (s.h : Int)]) (.int .i64 (i : Int))).run Tryd.prog w = .ok (.int .u32 (nth s i : Int)) w
  | 0, _, _ => by kernel_rfl
  | 1, _, _ => by kernel_rfl
  | 2, _, _ => by kernel_rfl
  | 3, _, _ => by kernel_rfl
  | 4, _, _ => by kernel_rfl
  | 5, _, _ => by kernel_rfl
  | 6, _, _ => by kernel_rfl
  | 7, _, _ => by kernel_rfl
  | _ + 8, h, _ => by omega
theorem four_idx (i : Nat) (hi : i < 8) : IntKind.i64.wrap (4 * (i : Int)) = 4 * (i : Int) ∧ IntKind.i64.wrap (4 * (i : Int) + 1) = 4 * (i : Int) + 1 ∧ IntKind.i64.wrap (4 * (i : Int) + 2) = 4 * (i : Int) + 2 ∧ IntKind.i64.wrap (4 * (i : Int) + 3) = 4 * (i : Int) + 3 ∧
    (4 * (i : Int)).toNat = 4 * i ∧ (4 * (i : Int) + 1).toNat = 4 * i + 1 ∧ (4 * (i : Int) + 2).toNat = 4 * i + 2 ∧ (4 * (i : Int) + 3).toNat = 4 * i + 3 ∧
    0 ≤ 4 * (i : Int) ∧ 0 ≤ 4 * (i : Int) + 1 ∧ 0 ≤ 4 * (i : Int) + 2 ∧ 0 ≤ 4 * (i : Int) + 3 ∧ 4 * (i : Int) < 32 ∧ 4 * (i : Int) + 1 < 32 ∧ 4 * (i : Int) + 2 < 32 ∧ 4 * (i : Int) + 3 < 32 := by
  refine ⟨by rw [IntKind.wrap_i64]; omega, by rw [IntKind.wrap_i64]; omega, by rw [IntKind.wrap_i64]; omega, by rw [IntKind.wrap_i64]; omega, by omega, by omega, by omega, by omega, by omega, by omega, by omega, by omega, by omega, by omega, by omega, by omega⟩
theorem row_some {w : World} {g : Nat} {cs : Array Value} {t : TypeId} {fr : Nat × Nat} (h : w.heap[g]? = some (.cells cs t fr)) (j : Nat) (hj : j < cs.size) : ∃ x, w.cell? ⟨g, j, none⟩ = some x := by
  rw [block_cell h, Array.getElem?_eq_getElem hj]
  exact ⟨_, rfl⟩
theorem row_there {w : World} {g : Nat} {cs : Array Value} {t : TypeId} (h : w.heap[g]? = some (.cells cs t (0, 0))) : w.there g 0 cs.size := by
  intro j hj
  rw [Nat.zero_add]
  refine ⟨?_, block_frozen h j⟩
  obtain ⟨x, hx⟩ := row_some h j hj
  rw [hx]
  rfl
theorem setCells_self {g : Nat} {cs : Array Value} {t : TypeId} {fr : Nat × Nat} : ∀ (vs : List Value) (o : Nat) (w : World), w.heap[g]? = some (.cells cs t fr) → (∀ j v, vs[j]? = some v → cs[o + j]? = some v) → (w.setCells g o vs).heap[g]? = some (.cells cs t fr)
  | [], _, _, h, _ => h
  | x :: r, o, _, h, hv => by
    refine setCells_self r (o + 1) _ ?_ (fun j v hj => by rw [Nat.add_right_comm]; exact hv (j + 1) v hj)
    have h0 := hv 0 x rfl
    rw [block_set h]
    congr 2
    apply Array.ext_getElem?
    intro i
    by_cases e : o = i
    · subst e
      have := (Array.getElem?_eq_some_iff.1 h0).1
      rw [Array.getElem?_setIfInBounds_self_of_lt (by omega)]
      exact h0.symm
    · rw [Array.getElem?_setIfInBounds_ne e]
theorem setCells_below {g : Nat} : ∀ (vs : List Value) (o : Nat) (w : World) (B : Nat) (a : World), B ≤ g → Below B a w → Below B a (w.setCells g o vs)
  | [], _, _, _, _, _, h => h
  | _ :: r, o, _, B, a, hB, h => setCells_below r (o + 1) _ B a hB (h.setCell hB _)
theorem size24 : (Tryd.prog.info? 24).map (·.size) = some 32 := by kernel_rfl
theorem und24 : Tryd.prog.underlying 24 = some (.array 32 5) := by kernel_rfl
/-- What stands while the end is made. -/
structure SI (w : World) (u : Value) (l : List Nat) (z : Nat) (ve : Value) (e : List Nat) (wr : World) : Prop where
  d : wr.heap[w.heap.size]? = some (.cells zero32 24 (0, 0))
  h : HAt wr (w.heap.size + 1) u l z
  fresh : ∀ g, u.ownBlock = some g → w.heap.size + 1 < g
  own : wr.ownsRow (w.heap.size + 1 + 1) 5 1 ve e.length (cells8 e)
  apart : ∀ g, ve.ownBlock = some g → u.ownBlock ≠ some g
  below : Below w.heap.size w wr

theorem SI.ownA {w wr : World} {u : Value} {l : List Nat} {z : Nat} {ve : Value} {e : List Nat} (S : SI w u l z ve e wr) (o : Obj) : (wr.alloc o).ownsRow (w.heap.size + 1 + 1) 5 1 ve e.length (cells8 e) :=
  ownsRow_block S.own (fun g hg => Below.heap_alloc _ _ _ (S.own.lt g hg).2)
theorem SI.snoc {w wr w' : World} {u : Value} {l : List Nat} {z : Nat} {ve v' : Value} {e : List Nat} {x : Nat} (S : SI w u l z ve e wr) (o : Obj) (hgr : (wr.alloc o).grownBy w' ve.ownBlock)
    (hown : w'.ownsRow (w.heap.size + 1 + 1) 5 1 v' (e.length + 1) (cells8 e ++ cells8 [x])) (hat : v'.ownBlock = ve.ownBlock ∨ v'.ownBlock = some (wr.alloc o).heap.size) : SI w u l z v' (e ++ [x]) w' := by
  have hlt := S.h.lt
  have hB : Below wr.heap.size wr (wr.alloc o) := (Below.refl _ _).alloc (Nat.le_refl _) o
  have hs : (wr.alloc o).heap.size = wr.heap.size + 1 := by simp
  have hne : ve.ownBlock ≠ some (w.heap.size + 1) := fun h => by have := (S.own.lt _ h).1; omega
  have hneD : ve.ownBlock ≠ some w.heap.size := fun h => by have := (S.own.lt _ h).1; omega
  refine ⟨?_, ?_, S.fresh, ?_, ?_, ?_⟩
  · rw [hgr.block w.heap.size (by omega) (fun h => hneD h.symm), hB.block _ (by omega)]
    exact S.d
  · exact (S.h.keepB hB).keep (p := w.heap.size) (v := ve) (Only.of_grown hgr) (by omega) hne (fun h => by have := S.fresh _ h; omega) (fun g hg h => S.apart g h hg)
  · rw [List.length_append, cells8_append]
    exact hown
  · intro g hg
    rcases hat with hat | hat
    · exact S.apart g (hat ▸ hg)
    · intro h
      have h1 := (S.h.own.lt g h).2
      rw [hat] at hg
      injection hg with hg
      omega
  · exact (S.below.alloc (by omega) o).grown hgr (by omega) (fun k hk => by have := (S.own.lt k hk).1; omega)

theorem SI.d_keep {w wr w' : World} {u ve : Value} {l e : List Nat} {z : Nat} (S : SI w u l z ve e wr) (h : Only (w.heap.size + 1) u wr w') : w'.heap[w.heap.size]? = some (.cells zero32 24 (0, 0)) := by
  rw [h.block _ (by have := S.h.lt; omega) (by omega) (fun e => by have := S.fresh _ e; omega)]
  exact S.d
theorem SI.below_keep {w wr w' : World} {u ve : Value} {l e : List Nat} {z : Nat} (S : SI w u l z ve e wr) (h : Only (w.heap.size + 1) u wr w') : Below w.heap.size w w' :=
  S.below.trans (h.below S.below.size (by omega) (fun g hg => by have := S.fresh g hg; omega))

set_option maxHeartbeats 4000000 in
set_option maxRecDepth 100000 in
theorem sum_calls (w : World) (p : Nat) (v : Value) (l : List Nat) (z : Nat) (hL : Laid w) (H : HAt w p v l z) (hz : z ≤ 1000000000000) :
    Calls Tryd.prog 15 #[.pointer (some ⟨p, 0, none⟩)] w fun e w' => e = .returned (digV (sumN l z)) ∧ Below w.heap.size w w' := by
  obtain ⟨i0, hi, hz0, hz1, hz2⟩ := info_parts info5
  have HI := Lib.hid (And.intro hi (And.intro hz0 (And.intro hz1 hz2)))
  have HH := Lib.hid (show ∀ o, HAt (w.alloc o) p v l z from fun o => H.keepB ((Below.refl _ _).alloc (Nat.le_refl _) o))
  have HL := Lib.hid hL
  clear hL H hi hz0 hz1 hz2
  go_enter Tryd.func15, Tryd.ntmps15
  go_wp2_with (go_at_call 13; refine (copy_calls _ p v l z (HH.out _)).mono ?_; rintro e w2 ⟨rfl, u, Hu, hfr, hB⟩; rw [new_size] at Hu hfr; have hD := (hB.block w.heap.size (by simp)).trans (alloc_new w _ _ rfl); have hB2 := ((Below.refl _ w).alloc (Nat.le_refl _) _).trans (hB.mono (by simp)); clear HH hB; obtain ⟨ou, cu, rfl, hcu, _⟩ := own_form Hu.own)
  have hr : l.length % 64 < 64 := by omega
  have hK : (119 - l.length % 64) % 64 < 64 := by omega
  obtain ⟨r, hre⟩ : ∃ r, r = l.length % 64 := ⟨_, rfl⟩
  have HR := Lib.hid hre
  rw [← hre] at hr hK Hu hcu hfr
  clear hre
  obtain ⟨K, hKe⟩ : ∃ K, K = (119 - r) % 64 := ⟨_, rfl⟩
  have HK := Lib.hid hKe
  rw [← hKe] at hK
  clear hKe
  have S0 : SI w (.slice ou r cu) l z (.slice (some ⟨w2.heap.size, 0, none⟩) 1 1) (128 :: List.replicate 0 0) (w2.alloc (.cells #[.int .u8 128] 5)) := by
    have hB3 : Below w2.heap.size w2 (w2.alloc (.cells #[.int .u8 128] 5)) := (Below.refl _ _).alloc (Nat.le_refl _) _
    have hlt := Hu.lt
    exact ⟨(hB3.block _ (by omega)).trans hD, Hu.keepB hB3, hfr, World.ownsRow_lit _ _ 1 (by omega) (by decide) rfl, fun g hg h => by
      have h1 := (Hu.own.lt g h).2
      injection hg with hg
      simp at hg
      omega, hB2.trans (hB3.mono (by omega))⟩
  have HS0 := Lib.hid S0
  clear S0 Hu hD hB2 hcu hfr
  go_loopg [4] K (fun k v4 wr => ∃ (o : Option Addr) (j c : Nat), v4 = .slice o (j + 1) c ∧ SI w (.slice ou r cu) l z (.slice o (j + 1) c) (128 :: List.replicate j 0) wr ∧ j ≤ K ∧ k = K - j)
  case atStart => exact ⟨_, 0, 1, rfl, HS0.out, by omega, by omega⟩
  case round =>
    obtain ⟨o, j, c, rfl, S, hj, rfl⟩ := hrel
    clear HS0
    have x9 : wr.cell? ⟨w.heap.size + 1, 9, none⟩ = some (.slice ou r cu) := block_cell S.h.cells 9
    have hw1 : IntKind.i64.wrap ((r : Int) + ((j : Int) + 1)) = (r : Int) + ((j : Int) + 1) := by rw [IntKind.wrap_i64]; omega
    by_cases hjk : j < K
    · have hc1 : ((((r : Int) + ((j : Int) + 1)) % 64) != 56) = true := by have := HK.out; have : ((r : Int) + ((j : Int) + 1)) % 64 ≠ 56 := (by omega); simp [this]
      have HO := Lib.hid (show ∀ o', (wr.alloc o').ownsRow (w.heap.size + 1 + 1) 5 1 (.slice o (j + 1) c) (j + 1) (cells8 (128 :: List.replicate j 0)) from fun o' => by have := S.ownA o'; simpa using this)
      have HW := Lib.hid S.below.size
      go_wp2_with ((with_reducible refine gate_builtin (b := .append) (xs := #[.tmp 24, .tmp 25]) rfl ?_); at_builtin; refine wpList_append_own_at _ rfl (.tmp 24) (.tmp 25) 37 rfl (w.heap.size + 1 + 1) 5 i0 (.int .u8 0) 1 1 Tryd.underlying37 HI.out.1 HI.out.2.1 HI.out.2.2.1 HI.out.2.2.2 rfl (by decide) (.slice o (j + 1) c) (j + 1) (cells8 (128 :: List.replicate j 0)) rfl (HO.out _) ⟨wr.heap.size, 0, none⟩ 1 1 (cells8 [0]) rfl rfl (cell_one_new _ _ _) (cells8_one _) (by unfold maxLen; omega) (by omega) (by have := S.h.lt; simp; omega) ?_; intro v' w' hown' hgr' hnil' hat'; have S' := S.snoc (x := 0) _ hgr' (by simpa using hown') hat'; obtain ⟨o', c', rfl, _, _⟩ := own_form hown'; clear hown' hgr' hnil' hat' HO S)
      go_roundg (K - (j + 1))
      case measure => omega
      case rel => exact ⟨o', j + 1, c', rfl, by rw [List.replicate_succ']; exact S', by omega, rfl⟩
    · have hjK : j = K := by omega
      subst hjK
      have hc1 : ((((r : Int) + ((j : Int) + 1)) % 64) != 56) = false := by have := HK.out; have : ((r : Int) + ((j : Int) + 1)) % 64 = 56 := (by omega); simp [this]
      clear hjk hj
      have T0 := Lib.hid S
      clear S
      go_wp2
      clear x9 hw1 hc1
      obtain ⟨wo, rfl⟩ : ∃ wo : World, wo = wr := ⟨_, rfl⟩
      go_loopg [4, 5] 8 (fun k v4 v5 wr => ∃ (o : Option Addr) (t c : Nat), v4 = .slice o (j + 1 + t) c ∧ v5 = .int .i64 (56 - 8 * (t : Int)) ∧ SI w (.slice ou r cu) l z (.slice o (j + 1 + t) c) (128 :: List.replicate j 0 ++ (lens z).take t) wr ∧ t ≤ 8 ∧ k = 8 - t)
      case atStart => exact ⟨_, 0, _, rfl, rfl, by rw [List.take_zero, List.append_nil]; exact T0.out, by omega, by omega⟩
      case round =>
        clear T0
        obtain ⟨o, t, c, rfl, rfl, S, ht, rfl⟩ := hrel
        by_cases ht8 : t < 8
        · have hc2 : decide ((0 : Int) ≤ 56 - 8 * (t : Int)) = true := decide_eq_true (by omega)
          have x10 : wr.cell? ⟨w.heap.size + 1, 10, none⟩ = some (.int .i64 (z : Int)) := block_cell S.h.cells 10
          have hz1 : IntKind.u64.wrap (z : Int) = (z : Int) := by rw [IntKind.wrap_u64]; omega
          have hz2 : IntKind.u64.wrap ((z : Int) * 8) = (z : Int) * 8 := by rw [IntKind.wrap_u64]; omega
          have hO := show ∀ o', (wr.alloc o').ownsRow (w.heap.size + 1 + 1) 5 1 (.slice o (j + 1 + t) c) (j + 1 + t) (cells8 (128 :: List.replicate j 0 ++ (lens z).take t)) from fun o' => by
            have := S.ownA o'
            rw [len_end j t z (by omega)] at this
            exact this
          have HO := Lib.hid hO
          clear hO
          have HW := Lib.hid S.below.size
          have hx := lenB_cast z (56 - 8 * t)
          have hsub : IntKind.i64.wrap (56 - 8 * (t : Int) - 8) = 56 - 8 * ((t + 1 : Nat) : Int) := by rw [IntKind.wrap_i64]; omega
          go_wp2_with ((with_reducible refine gate_builtin (b := .append) (xs := #[.tmp 31, .tmp 41]) rfl ?_); at_builtin; refine wpList_append_own_at _ rfl (.tmp 31) (.tmp 41) 37 rfl (w.heap.size + 1 + 1) 5 i0 (.int .u8 0) 1 1 Tryd.underlying37 HI.out.1 HI.out.2.1 HI.out.2.2.1 HI.out.2.2.2 rfl (by decide) (.slice o (j + 1 + t) c) (j + 1 + t) (cells8 (128 :: List.replicate j 0 ++ (lens z).take t)) rfl (HO.out _) ⟨wr.heap.size, 0, none⟩ 1 1 (cells8 [lenB z (56 - 8 * t)]) rfl rfl (cell_one_new _ _ _) (cells8_one _) (by unfold maxLen; omega) (by omega) (by have := S.h.lt; simp; omega) ?_; intro v' w' hown' hgr' hnil' hat'; have S' := S.snoc (x := lenB z (56 - 8 * t)) _ hgr' (by rw [len_end j t z (by omega)]; exact hown') hat'; obtain ⟨o', c', rfl, _, _⟩ := own_form hown'; clear hown' hgr' hnil' hat' HO S)
          go_roundg (8 - (t + 1))
          case measure => omega
          case rel => exact ⟨o', t + 1, c', rfl, by first | rfl | (congr 1; omega) | simp, by rw [lens_take z t ht8, ← List.append_assoc]; exact S', by omega, rfl⟩
        · have ht8' : t = 8 := by omega
          subst ht8'
          have hend : 128 :: List.replicate j 0 ++ (lens z).take 8 = endN r z := by
            rw [HK.out]
            rfl
          have hlen := len_end j 8 z (by omega)
          rw [hend] at S hlen
          obtain ⟨oe, ce, heq, _, hform⟩ := own_form S.own
          injection heq with e1 e2 e3
          rcases hform with ⟨_, h0, _⟩ | ⟨ge, hoe, hge2, hcell⟩
          · omega
          rw [hoe] at e1
          subst e1
          have T1 := Lib.hid S
          have HC := Lib.hid (show ∀ (i : Nat) (x : Value), (cells8 (endN r z))[i]? = some x → wr.cell? ((⟨ge, 0, none⟩ : Addr).add i) = some x from fun i x hx => by
            have hi := (List.getElem?_eq_some_iff.1 hx).1
            rw [cells8_length] at hi
            rw [add_zero, hcell i (by omega)]
            exact hx)
          have HE := Lib.hid hlen
          clear S hcell hend hlen e2 e3
          go_wp2_with (go_at_call 28; refine (take_at _ (w.heap.size + 1) (.slice ou r cu) l (endN r z) z ⟨ge, 0, none⟩ _ (j + 1 + 8) HE.out (HL.out.of_below T1.out.below (by have := HL.out.lt; omega)) T1.out.h (by omega) (endN_lt r z) HC.out).mono ?_; rintro e w4 ⟨rfl, u4, Hu4, hfr4, hon4⟩; have y1 : w4.cell? ⟨w.heap.size + 1, 1, none⟩ = some (.int .u32 ((stN (fB (l ++ endN r z)) ((l ++ endN r z).length / 64)).a : Int)) := block_cell Hu4.cells 1; have y2 : w4.cell? ⟨w.heap.size + 1, 2, none⟩ = some (.int .u32 ((stN (fB (l ++ endN r z)) ((l ++ endN r z).length / 64)).b : Int)) := block_cell Hu4.cells 2; have y3 : w4.cell? ⟨w.heap.size + 1, 3, none⟩ = some (.int .u32 ((stN (fB (l ++ endN r z)) ((l ++ endN r z).length / 64)).c : Int)) := block_cell Hu4.cells 3; have y4 : w4.cell? ⟨w.heap.size + 1, 4, none⟩ = some (.int .u32 ((stN (fB (l ++ endN r z)) ((l ++ endN r z).length / 64)).d : Int)) := block_cell Hu4.cells 4; have y5 : w4.cell? ⟨w.heap.size + 1, 5, none⟩ = some (.int .u32 ((stN (fB (l ++ endN r z)) ((l ++ endN r z).length / 64)).e : Int)) := block_cell Hu4.cells 5; have y6 : w4.cell? ⟨w.heap.size + 1, 6, none⟩ = some (.int .u32 ((stN (fB (l ++ endN r z)) ((l ++ endN r z).length / 64)).f : Int)) := block_cell Hu4.cells 6; have y7 : w4.cell? ⟨w.heap.size + 1, 7, none⟩ = some (.int .u32 ((stN (fB (l ++ endN r z)) ((l ++ endN r z).length / 64)).g : Int)) := block_cell Hu4.cells 7; have y8 : w4.cell? ⟨w.heap.size + 1, 8, none⟩ = some (.int .u32 ((stN (fB (l ++ endN r z)) ((l ++ endN r z).length / 64)).h : Int)) := block_cell Hu4.cells 8; have hD4 := T1.out.d_keep hon4; have hB4 := T1.out.below_keep hon4)
          clear Hu4 hfr4 hon4 T1 HC HE
          have hdig : sumN l z = dig (stN (fB (l ++ endN r z)) ((l ++ endN r z).length / 64)) := by unfold sumN; rw [← HR.out]
          have HD := Lib.hid hdig
          clear hdig
          revert HD y1 y2 y3 y4 y5 y6 y7 y8
          generalize stN (fB (l ++ endN r z)) ((l ++ endN r z).length / 64) = s8
          intro y1 y2 y3 y4 y5 y6 y7 y8 HD
          go_quiet (fail)
          clear y1 y2 y3 y4 y5 y6 y7 y8
          go_wp2
          obtain ⟨wo2, rfl⟩ : ∃ wo2 : World, wo2 = wr := ⟨_, rfl⟩
          have HX := Lib.hid (And.intro (show (w4.drewN nq).heap[w.heap.size]? = some (.cells (digC s8 0) 24 (0, 0)) from hD4) (pw_below_drewN hB4 nq))
          clear hD4 hB4
          go_loopg [87] 8 (fun k v87 wr => ∃ i : Nat, v87 = .int .i64 i ∧ i ≤ 8 ∧ wr.heap[w.heap.size]? = some (.cells (digC s8 i) 24 (0, 0)) ∧ Below w.heap.size w wr ∧ k = 8 - i)
          case atStart => exact ⟨0, rfl, by omega, HX.out.1, HX.out.2, rfl⟩
          case round =>
            clear HX
            obtain ⟨i, rfl, hi8, hD, hB, rfl⟩ := hrel
            by_cases hlt8 : i < 8
            · obtain ⟨x0, hx0⟩ := row_some hD (4 * i) (by rw [digC_size]; omega)
              obtain ⟨x1, hx1⟩ := row_some hD (4 * i + 1) (by rw [digC_size]; omega)
              obtain ⟨x2, hx2⟩ := row_some hD (4 * i + 2) (by rw [digC_size]; omega)
              obtain ⟨x3, hx3⟩ := row_some hD (4 * i + 3) (by rw [digC_size]; omega)
              have hfz := fun k => block_frozen hD k
              have hix := index51 s8 i hlt8
              have H1 := Lib.hid hD
              have H2 := Lib.hid hB
              clear hD hB
              obtain ⟨e0, e1, e2, e3, n0, n1, n2, n3, l0, l1, l2, l3, m0, m1, m2, m3⟩ := four_idx i hlt8
              have q0 := b24_cast (nth s8 i)
              have q1 := b16_cast (nth s8 i)
              have q2 := b8_cast (nth s8 i)
              have q3 := b0_cast (nth s8 i)
              go_wp2
              go_roundg (8 - (i + 1))
              case measure => clear e0 e1 e2 e3 n0 n1 n2 n3 l0 l1 l2 l3 m0 m1 m2 m3; omega
              case rel =>
                clear e0 e1 e2 e3 n0 n1 n2 n3 l0 l1 l2 l3 m0 m1 m2 m3
                exact ⟨i + 1, by simp, by omega, block_set (block_set (block_set (block_set H1.out _ _) _ _) _ _) _ _, (((H2.out.setCell (by simp) _).setCell (by simp) _).setCell (by simp) _).setCell (by simp) _, rfl⟩
            · have h8 : i = 8 := by omega
              subst h8
              have hD' := hD
              rw [digC_all] at hD'
              have H1 := Lib.hid hD'
              have H2 := Lib.hid hB
              clear hD hB hD'
              go_wp2_with (first | (refine wpList_load_row rfl 24 (.tmp 2) rfl w.heap.size rfl 24 (cells8 (dig s8)).toArray (0, 0) (.array 32 5) H1.out und24 rfl size24 ?_) | (refine wpList_store_mid rfl 24 (.tmp 2) (.tmp 118) rfl w.heap.size 0 (cells8 (dig s8)).toArray rfl rfl (row_there H1.out) size24 (all_oneCell_toArray (cells8_one _)) ?_))
              refine bodyPost_ret (v := digV (sumN l z)) ?_ rfl ⟨rfl, setCells_below _ _ _ _ _ (Nat.le_refl _) H2.out⟩
              rw [HD.out]
              exact results_cell_row Tryd.results15 _ _ _ _ _ _ _ rfl (setCells_self _ 0 _ H1.out (fun j v hj => by rw [Nat.zero_add]; simpa using hj)) und24 rfl size24
end Go.Proofs.YtegjphfkkafomaaDoor.Sha
