/- The reference's block: its walk. -/
import Derived.Test.YtegjphfkkafomaaDoorSha10
namespace Go.Proofs.YtegjphfkkafomaaDoor.Sha
open Go.RowKit Go.Proofs Go.Proofs.YtegjphfkkafomaaDoor.Q Go.Proofs.YtegjphfkkafomaaDoorW.PrintWords Go.Proofs.YtegjphfkkafomaaDoorW.PrintLast Go.Proofs.YtegjphfkkafomaaDoorW.PrintMore

/-- The numbers of the rounds, so many of 64. -/
def wA (b : Nat → Nat) : Nat → Array Value
  | 0 => Array.replicate 64 (.int .u32 0)
  | i + 1 => (wA b i).setIfInBounds i (.int .u32 (W b i : Int))
theorem wA_size (b : Nat → Nat) : ∀ i, (wA b i).size = 64
  | 0 => rfl
  | i + 1 => by unfold wA; rw [Array.size_setIfInBounds]; exact wA_size b i
theorem wA_get (b : Nat → Nat) : ∀ i j, j < i → i ≤ 64 → (wA b i)[j]? = some (.int .u32 (W b j : Int))
  | 0, j, h, _ => by omega
  | i + 1, j, h, h1 => by
    unfold wA
    by_cases e : j = i
    · subst e
      rw [Array.getElem?_setIfInBounds_self_of_lt (by rw [wA_size]; omega)]
    · rw [Array.getElem?_setIfInBounds_ne (by omega)]
      exact wA_get b i j (by omega) (by omega)

/-- In the reference's block. -/
structure BI (w : World) (s : NS) (b : Nat → Nat) (i : Nat) (wr : World) : Prop where
  below : Below w.heap.size w wr
  v : wr.heap[w.heap.size]? = some (.cells s.cells 51 (0, 0))
  k : wr.heap[w.heap.size + 1]? = some (.cells kCells 50 (0, 0))
  out : wr.heap[w.heap.size + 1 + 1]? = some (.cells zero8 51 (0, 0))
  w : wr.heap[w.heap.size + 1 + 1 + 1]? = some (.cells (wA b i) 50 (0, 0))
theorem BI.get {w wr : World} {s : NS} {b : Nat → Nat} {i : Nat} (h : BI w s b i wr) (j : Nat) (h1 : j < i) (h2 : i ≤ 64) : wr.cell? ⟨w.heap.size + 1 + 1 + 1, j, none⟩ = some (.int .u32 (W b j : Int)) := by
  rw [block_cell h.w]
  exact wA_get b i j h1 h2
theorem BI.drewN {w wr : World} {s : NS} {b : Nat → Nat} {i : Nat} (h : BI w s b i wr) (n : Nat) : BI w s b i (wr.drewN n) := ⟨pw_below_drewN h.below n, h.v, h.k, h.out, h.w⟩
theorem BI.put {w wr : World} {s : NS} {b : Nat → Nat} {i : Nat} (h : BI w s b i wr) {x : Nat} (hx : x = W b i) : BI w s b (i + 1) (wr.setCell ⟨w.heap.size + 1 + 1 + 1, i, none⟩ (.int .u32 (x : Int))) where
  below := h.below.setCell (by simp; omega) _
  v := by rw [Below.heap_setCell _ _ _ _ (by simp; omega)]; exact h.v
  k := by rw [Below.heap_setCell _ _ _ _ (by first | simp | (simp; omega))]; exact h.k
  out := by rw [Below.heap_setCell _ _ _ _ (by simp)]; exact h.out
  w := by
    subst hx
    exact block_set h.w i _

theorem r_nat (x k : Nat) (w : World) (m : Nat) (hx : x < 4294967296) (hk : 1 ≤ k) (hk1 : k ≤ 31) :
    Calls Tryd.prog 31 #[.int .u32 (x : Int), .int .u32 (k : Int)] (w.drewN m) fun e w' => e = .returned (.int .u32 ((rotN x k : Nat) : Int)) ∧ ∃ n, w' = w.drewN n := by
  have h := r_quiet (x : Int) k w m (Int.natCast_nonneg _) (Int.ofNat_lt.2 hx) hk hk1
  rwa [rotN_cast] at h

theorem byN_bt (t : ByteArray) (i : Nat) (h : i < t.size) : bt t (i : Int) = ((fB (byN t) i : Nat) : Int) := by
  unfold bt fB byN
  have h2 : ((i : Int)).toNat = i := by omega
  simp [h2, h, List.getD]
  rfl

theorem byN_at (t : ByteArray) (i : Nat) (h : i < t.size) : (((t[i]'h).toNat : Nat) : Int) = ((fB (byN t) i : Nat) : Int) := by
  rw [← byN_bt t i h]
  unfold bt
  have h2 : ((i : Int)).toNat = i := by omega
  simp [h2, h]
theorem idx4 (i : Nat) (hi : i < 16) : IntKind.i64.wrap (4 * (i : Int)) = 4 * (i : Int) ∧ IntKind.i64.wrap (4 * (i : Int) + 1) = 4 * (i : Int) + 1 ∧ IntKind.i64.wrap (4 * (i : Int) + 2) = 4 * (i : Int) + 2 ∧ IntKind.i64.wrap (4 * (i : Int) + 3) = 4 * (i : Int) + 3 ∧
    (4 * (i : Int)).toNat = 4 * i ∧ (4 * (i : Int) + 1).toNat = 4 * i + 1 ∧ (4 * (i : Int) + 2).toNat = 4 * i + 2 ∧ (4 * (i : Int) + 3).toNat = 4 * i + 3 ∧
    0 ≤ 4 * (i : Int) ∧ 0 ≤ 4 * (i : Int) + 1 ∧ 0 ≤ 4 * (i : Int) + 2 ∧ 0 ≤ 4 * (i : Int) + 3 ∧ 4 * (i : Int) < 64 ∧ 4 * (i : Int) + 1 < 64 ∧ 4 * (i : Int) + 2 < 64 ∧ 4 * (i : Int) + 3 < 64 := by
  refine ⟨by rw [IntKind.wrap_i64]; omega, by rw [IntKind.wrap_i64]; omega, by rw [IntKind.wrap_i64]; omega, by rw [IntKind.wrap_i64]; omega, by omega, by omega, by omega, by omega, by omega, by omega, by omega, by omega, by omega, by omega, by omega, by omega⟩
theorem sums (c0 c1 c2 c3 : Nat) (h0 : c0 < 256) (h1 : c1 < 256) (h2 : c2 < 256) (h3 : c3 < 256) : IntKind.u32.wrap (c0 : Int) = c0 ∧ IntKind.u32.wrap (c1 : Int) = c1 ∧ IntKind.u32.wrap (c2 : Int) = c2 ∧ IntKind.u32.wrap (c3 : Int) = c3 ∧
    IntKind.u32.wrap ((c0 : Int) * 16777216) = (c0 : Int) * 16777216 ∧ IntKind.u32.wrap ((c1 : Int) * 65536) = (c1 : Int) * 65536 ∧ IntKind.u32.wrap ((c2 : Int) * 256) = (c2 : Int) * 256 ∧
    IntKind.u32.wrap ((c0 : Int) * 16777216 + (c1 : Int) * 65536) = (c0 : Int) * 16777216 + (c1 : Int) * 65536 ∧ IntKind.u32.wrap ((c0 : Int) * 16777216 + (c1 : Int) * 65536 + (c2 : Int) * 256) = (c0 : Int) * 16777216 + (c1 : Int) * 65536 + (c2 : Int) * 256 ∧
    IntKind.u32.wrap ((c0 : Int) * 16777216 + (c1 : Int) * 65536 + (c2 : Int) * 256 + (c3 : Int)) = (c0 : Int) * 16777216 + (c1 : Int) * 65536 + (c2 : Int) * 256 + (c3 : Int) ∧
    (c0 : Int) * 16777216 + (c1 : Int) * 65536 + (c2 : Int) * 256 + (c3 : Int) = ((c0 * 16777216 + c1 * 65536 + c2 * 256 + c3 : Nat) : Int) := by
  simp only [IntKind.wrap_u32]
  omega

theorem next_eq2 (a x z y : Nat) (hx : x < 4294967296) (hy : y < 4294967296) :
    ((a : Int) + Go.bits .xor .u32 (Go.bits .xor .u32 ((rotN x 7 : Nat) : Int) ((rotN x 18 : Nat) : Int)) ((x : Int) / 8) + (z : Int) +
      Go.bits .xor .u32 (Go.bits .xor .u32 ((rotN y 17 : Nat) : Int) ((rotN y 19 : Nat) : Int)) ((y : Int) / 1024)) % 4294967296 = ((nextW a x z y : Nat) : Int) := by
  have r7 := rotN_lt x 7 hx (by decide)
  have r18 := rotN_lt x 18 hx (by decide)
  have r17 := rotN_lt y 17 hy (by decide)
  have r19 := rotN_lt y 19 hy (by decide)
  rw [show (x : Int) / 8 = ((x / 8 : Nat) : Int) from rfl, show (y : Int) / 1024 = ((y / 1024 : Nat) : Int) from rfl]
  rw [u32_xor_nat _ _ r7 r18, u32_xor_nat _ _ (xor_lt32 r7 r18) (by omega), u32_xor_nat _ _ r17 r19, u32_xor_nat _ _ (xor_lt32 r17 r19) (by omega)]
  unfold nextW s0 s1
  generalize rotN x 7 ^^^ rotN x 18 ^^^ x / 8 = p
  generalize rotN y 17 ^^^ rotN y 19 ^^^ y / 1024 = q
  omega
theorem idxS15 (i : Nat) (hc : 15 ≤ i) (hi : i < 64) : IntKind.i64.wrap ((i : Int) - 15) = (i : Int) - 15 ∧ ((i : Int) - 15).toNat = i - 15 ∧ 0 ≤ (i : Int) - 15 ∧ (i : Int) - 15 < 64 := by
  refine ⟨by rw [IntKind.wrap_i64]; omega, by omega, by omega, by omega⟩
theorem idxS2 (i : Nat) (hc : 2 ≤ i) (hi : i < 64) : IntKind.i64.wrap ((i : Int) - 2) = (i : Int) - 2 ∧ ((i : Int) - 2).toNat = i - 2 ∧ 0 ≤ (i : Int) - 2 ∧ (i : Int) - 2 < 64 := by
  refine ⟨by rw [IntKind.wrap_i64]; omega, by omega, by omega, by omega⟩
theorem idxS16 (i : Nat) (hc : 16 ≤ i) (hi : i < 64) : IntKind.i64.wrap ((i : Int) - 16) = (i : Int) - 16 ∧ ((i : Int) - 16).toNat = i - 16 ∧ 0 ≤ (i : Int) - 16 ∧ (i : Int) - 16 < 64 := by
  refine ⟨by rw [IntKind.wrap_i64]; omega, by omega, by omega, by omega⟩
theorem idxS7 (i : Nat) (hc : 7 ≤ i) (hi : i < 64) : IntKind.i64.wrap ((i : Int) - 7) = (i : Int) - 7 ∧ ((i : Int) - 7).toNat = i - 7 ∧ 0 ≤ (i : Int) - 7 ∧ (i : Int) - 7 < 64 := by
  refine ⟨by rw [IntKind.wrap_i64]; omega, by omega, by omega, by omega⟩

theorem kCells_get (i : Nat) (h : i < 64) : kCells[i]? = some (.int .u32 (kk i : Int)) := by
  have h1 : i < KS.length := by show i < 64; omega
  unfold kCells kk
  rw [List.getElem?_toArray, List.getElem?_map, List.getD_eq_getElem?_getD, List.getElem?_eq_getElem h1]
  rfl
/-- In the reference's rounds. -/
structure CI (w : World) (s : NS) (b : Nat → Nat) (N : Nat) (i : Nat) (wr : World) : Prop where
  below : Below w.heap.size w wr
  lt : w.heap.size + 1 + 1 + 1 < N
  v : wr.heap[w.heap.size]? = some (.cells s.cells 51 (0, 0))
  k : wr.heap[w.heap.size + 1]? = some (.cells kCells 50 (0, 0))
  out : wr.heap[w.heap.size + 1 + 1]? = some (.cells zero8 51 (0, 0))
  w : wr.heap[w.heap.size + 1 + 1 + 1]? = some (.cells (wA b 64) 50 (0, 0))
  n : wr.heap[N]? = some (.cells (nows b s i).cells 51 (0, 0))
theorem CI.drewN {w wr : World} {s : NS} {b : Nat → Nat} {N i : Nat} (h : CI w s b N i wr) (n : Nat) : CI w s b N i (wr.drewN n) := ⟨pw_below_drewN h.below n, h.lt, h.v, h.k, h.out, h.w, h.n⟩
theorem CI.getW {w wr : World} {s : NS} {b : Nat → Nat} {N i : Nat} (h : CI w s b N i wr) (j : Nat) (h1 : j < 64) : wr.cell? ⟨w.heap.size + 1 + 1 + 1, j, none⟩ = some (.int .u32 (W b j : Int)) := by
  rw [block_cell h.w]
  exact wA_get b 64 j h1 (Nat.le_refl _)
theorem CI.getK {w wr : World} {s : NS} {b : Nat → Nat} {N i : Nat} (h : CI w s b N i wr) (j : Nat) (h1 : j < 64) : wr.cell? ⟨w.heap.size + 1, j, none⟩ = some (.int .u32 (kk j : Int)) := by
  rw [block_cell h.k]
  exact kCells_get j h1
theorem block_put8r {w : World} {g : Nat} {t : TypeId} {fr : Nat × Nat} {c0 c1 c2 c3 c4 c5 c6 c7 : Value} (h : w.heap[g]? = some (.cells #[c0, c1, c2, c3, c4, c5, c6, c7] t fr)) (v0 v1 v2 v3 v4 v5 v6 v7 : Value) : ((((((((w.setCell ⟨g, 7, none⟩ v7).setCell ⟨g, 6, none⟩ v6).setCell ⟨g, 5, none⟩ v5).setCell ⟨g, 4, none⟩ v4).setCell ⟨g, 3, none⟩ v3).setCell ⟨g, 2, none⟩ v2).setCell ⟨g, 1, none⟩ v1).setCell ⟨g, 0, none⟩ v0).heap[g]? = some (.cells #[v0, v1, v2, v3, v4, v5, v6, v7] t fr) := by
  have h0 := block_set h 7 v7
  have h1 := block_set h0 6 v6
  have h2 := block_set h1 5 v5
  have h3 := block_set h2 4 v4
  have h4 := block_set h3 3 v3
  have h5 := block_set h4 2 v2
  have h6 := block_set h5 1 v1
  have h7 := block_set h6 0 v0
  simpa using h7
theorem CI.put8 {w w3 : World} {s : NS} {b : Nat → Nat} {N i : Nat} (h : CI w s b N i w3) {t : NS} (ht : t = nows b s (i + 1)) : CI w s b N (i + 1)
    ((((((((w3.setCell ⟨N, 7, none⟩ (.int .u32 (t.h : Int))).setCell ⟨N, 6, none⟩ (.int .u32 (t.g : Int))).setCell ⟨N, 5, none⟩ (.int .u32 (t.f : Int))).setCell ⟨N, 4, none⟩ (.int .u32 (t.e : Int))).setCell ⟨N, 3, none⟩ (.int .u32 (t.d : Int))).setCell ⟨N, 2, none⟩ (.int .u32 (t.c : Int))).setCell ⟨N, 1, none⟩ (.int .u32 (t.b : Int))).setCell ⟨N, 0, none⟩ (.int .u32 (t.a : Int))) := by
  have hl := h.lt
  refine ⟨?_, hl, ?_, ?_, ?_, ?_, ?_⟩
  · exact ((((((((h.below.setCell (by simp; omega) _).setCell (by simp; omega) _).setCell (by simp; omega) _).setCell (by simp; omega) _).setCell (by simp; omega) _).setCell (by simp; omega) _).setCell (by simp; omega) _).setCell (by simp; omega) _)
  · rw [Below.heap_setCell _ _ _ _ (by simp; omega), Below.heap_setCell _ _ _ _ (by simp; omega), Below.heap_setCell _ _ _ _ (by simp; omega), Below.heap_setCell _ _ _ _ (by simp; omega), Below.heap_setCell _ _ _ _ (by simp; omega), Below.heap_setCell _ _ _ _ (by simp; omega), Below.heap_setCell _ _ _ _ (by simp; omega), Below.heap_setCell _ _ _ _ (by simp; omega)]; exact h.v
  · rw [Below.heap_setCell _ _ _ _ (by simp; omega), Below.heap_setCell _ _ _ _ (by simp; omega), Below.heap_setCell _ _ _ _ (by simp; omega), Below.heap_setCell _ _ _ _ (by simp; omega), Below.heap_setCell _ _ _ _ (by simp; omega), Below.heap_setCell _ _ _ _ (by simp; omega), Below.heap_setCell _ _ _ _ (by simp; omega), Below.heap_setCell _ _ _ _ (by simp; omega)]; exact h.k
  · rw [Below.heap_setCell _ _ _ _ (by simp; omega), Below.heap_setCell _ _ _ _ (by simp; omega), Below.heap_setCell _ _ _ _ (by simp; omega), Below.heap_setCell _ _ _ _ (by simp; omega), Below.heap_setCell _ _ _ _ (by simp; omega), Below.heap_setCell _ _ _ _ (by simp; omega), Below.heap_setCell _ _ _ _ (by simp; omega), Below.heap_setCell _ _ _ _ (by simp; omega)]; exact h.out
  · rw [Below.heap_setCell _ _ _ _ (by simp; omega), Below.heap_setCell _ _ _ _ (by simp; omega), Below.heap_setCell _ _ _ _ (by simp; omega), Below.heap_setCell _ _ _ _ (by simp; omega), Below.heap_setCell _ _ _ _ (by simp; omega), Below.heap_setCell _ _ _ _ (by simp; omega), Below.heap_setCell _ _ _ _ (by simp; omega), Below.heap_setCell _ _ _ _ (by simp; omega)]; exact h.w
  · rw [← ht]
    exact block_put8r (c0 := .int .u32 ((nows b s i).a : Int)) h.n _ _ _ _ _ _ _ _
theorem ch_eq2 (e f g : Nat) (hg : g < 4294967296) : (e &&& f) ^^^ ((4294967295 ^^^ e) &&& g) = g ^^^ (e &&& (f ^^^ g)) := by
  apply Nat.eq_of_testBit_eq
  intro i
  have h0 : (4294967295 : Nat).testBit i = decide (i < 32) := Nat.testBit_two_pow_sub_one 32 i
  simp only [Nat.testBit_xor, Nat.testBit_and, h0]
  by_cases hi : i < 32
  · simp only [hi, decide_true]
    cases e.testBit i <;> cases f.testBit i <;> cases g.testBit i <;> rfl
  · have h2 : g.testBit i = false := Nat.testBit_lt_two_pow (Nat.lt_of_lt_of_le hg (by rw [show 4294967296 = 2 ^ 32 from rfl]; exact Nat.pow_le_pow_right (by decide) (by omega)))
    rw [h2]
    simp [hi]
theorem tN_ref (a b c d e f g h k x : Nat) (he : e < 4294967296) (hf : f < 4294967296) (hg : g < 4294967296) :
    ((h : Int) + Go.bits .xor .u32 (Go.bits .xor .u32 ((rotN e 6 : Nat) : Int) ((rotN e 11 : Nat) : Int)) ((rotN e 25 : Nat) : Int) +
      Go.bits .xor .u32 (Go.bits .and .u32 (e : Int) (f : Int)) (Go.bits .and .u32 (Go.bits .xor .u32 IntKind.u32.max (e : Int)) (g : Int)) + (k : Int) + (x : Int)) % 4294967296 = ((tN ⟨a, b, c, d, e, f, g, h⟩ k x % 4294967296 : Nat) : Int) := by
  have r6 := rotN_lt e 6 he (by decide)
  have r11 := rotN_lt e 11 he (by decide)
  have r25 := rotN_lt e 25 he (by decide)
  rw [show IntKind.u32.max = ((4294967295 : Nat) : Int) from rfl]
  rw [u32_xor_nat _ _ r6 r11, u32_xor_nat _ _ (xor_lt32 r6 r11) r25, u32_and_nat _ _ he hf, u32_xor_nat _ _ (by decide) he, u32_and_nat _ _ (xor_lt32 (by decide) he) hg, u32_xor_nat _ _ (and_lt32 he) (and_lt32 (xor_lt32 (by decide) he)), ch_eq2 _ _ _ hg]
  unfold tN
  show _ = (((h + (rotN e 6 ^^^ rotN e 11 ^^^ rotN e 25) + (g ^^^ e &&& (f ^^^ g)) + k + x) % 4294967296 : Nat) : Int)
  generalize (rotN e 6 ^^^ rotN e 11 ^^^ rotN e 25) = p
  generalize (g ^^^ e &&& (f ^^^ g)) = q
  omega
theorem uN_ref (a b c d e f g h : Nat) (ha : a < 4294967296) (hb : b < 4294967296) (hc : c < 4294967296) :
    IntKind.u32.wrap (Go.bits .xor .u32 (Go.bits .xor .u32 ((rotN a 2 : Nat) : Int) ((rotN a 13 : Nat) : Int)) ((rotN a 22 : Nat) : Int) +
      Go.bits .xor .u32 (Go.bits .xor .u32 (Go.bits .and .u32 (a : Int) (b : Int)) (Go.bits .and .u32 (a : Int) (c : Int))) (Go.bits .and .u32 (b : Int) (c : Int))) = ((uN ⟨a, b, c, d, e, f, g, h⟩ % 4294967296 : Nat) : Int) := by
  have r2 := rotN_lt a 2 ha (by decide)
  have r13 := rotN_lt a 13 ha (by decide)
  have r22 := rotN_lt a 22 ha (by decide)
  rw [IntKind.wrap_u32, u32_xor_nat _ _ r2 r13, u32_xor_nat _ _ (xor_lt32 r2 r13) r22, u32_and_nat _ _ ha hb, u32_and_nat _ _ ha hc, u32_and_nat _ _ hb hc, u32_xor_nat _ _ (and_lt32 ha) (and_lt32 ha), u32_xor_nat _ _ (xor_lt32 (and_lt32 ha) (and_lt32 ha)) (and_lt32 hb), maj_eq]
  unfold uN
  show _ = ((((rotN a 2 ^^^ rotN a 13 ^^^ rotN a 22) + (a &&& b ||| c &&& (a ||| b))) % 4294967296 : Nat) : Int)
  generalize (rotN a 2 ^^^ rotN a 13 ^^^ rotN a 22) = p
  generalize (a &&& b ||| c &&& (a ||| b)) = q
  omega
theorem round_ref (q : NS) (k x : Nat) : (⟨(tN q k x % 4294967296 + uN q % 4294967296) % 4294967296, q.a, q.b, q.c, (q.d + tN q k x % 4294967296) % 4294967296, q.e, q.f, q.g⟩ : NS) = roundN q k x := by
  unfold roundN
  congr 1 <;> omega
theorem size51 : (Tryd.prog.info? 51).map (·.size) = some 8 := by kernel_rfl
theorem cells_nth (s : NS) : ∀ j, j < 8 → s.cells[j]? = some (.int .u32 (nth s j : Int))
  | 0, _ => rfl
  | 1, _ => rfl
  | 2, _ => rfl
  | 3, _ => rfl
  | 4, _ => rfl
  | 5, _ => rfl
  | 6, _ => rfl
  | 7, _ => rfl
  | _ + 8, h => by omega
/-- The numbers, so many of them added. -/
def vL (s t : NS) : Nat → Array Value
  | 0 => s.cells
  | i + 1 => (vL s t i).setIfInBounds i (.int .u32 (((nth s i + nth t i) % 4294967296 : Nat) : Int))
theorem vL_get (s t : NS) : ∀ i j, i ≤ j → j < 8 → (vL s t i)[j]? = some (.int .u32 (nth s j : Int))
  | 0, j, _, h => cells_nth s j h
  | i + 1, j, h1, h => by
    unfold vL
    rw [Array.getElem?_setIfInBounds_ne (by omega)]
    exact vL_get s t i j (by omega) h
theorem vL_all (s t : NS) : vL s t 8 = (addN s t).cells := by kernel_rfl
/-- In the reference's sum. -/
structure DI (w : World) (s t : NS) (N : Nat) (i : Nat) (wr : World) : Prop where
  below : Below w.heap.size w wr
  lt : w.heap.size + 1 + 1 + 1 < N
  v : wr.heap[w.heap.size]? = some (.cells (vL s t i) 51 (0, 0))
  out : wr.heap[w.heap.size + 1 + 1]? = some (.cells zero8 51 (0, 0))
  n : wr.heap[N]? = some (.cells t.cells 51 (0, 0))
theorem DI.put {w wr : World} {s t : NS} {N i : Nat} (h : DI w s t N i wr) (n : Nat) {x : Int} (hx : x = (((nth s i + nth t i) % 4294967296 : Nat) : Int)) : DI w s t N (i + 1) ((wr.drewN n).setCell ⟨w.heap.size, i, none⟩ (.int .u32 x)) := by
  have hl := h.lt
  subst hx
  refine ⟨(pw_below_drewN h.below n).setCell (Nat.le_refl _) _, hl, ?_, ?_, ?_⟩
  · exact block_set (w := wr.drewN n) h.v i _
  · rw [Below.heap_setCell _ _ _ _ (by simp; omega)]; exact h.out
  · rw [Below.heap_setCell _ _ _ _ (by simp; omega)]; exact h.n

attribute [local irreducible] W nows kk wA
set_option maxHeartbeats 4000000 in
set_option maxRecDepth 100000 in
theorem block_calls (s : NS) (t : ByteArray) (w : World) (hs : s.ok) (ht : t.size = 64) :
    Calls Tryd.prog 27 #[.agg #[.int .u32 (s.a : Int), .int .u32 (s.b : Int), .int .u32 (s.c : Int), .int .u32 (s.d : Int), .int .u32 (s.e : Int), .int .u32 (s.f : Int), .int .u32 (s.g : Int), .int .u32 (s.h : Int)], .agg kCells, .string t] w fun e w' => e = .returned (blockN s (fB (byN t))).val ∧ Below w.heap.size w w' := by
  obtain ⟨kc, hkc⟩ : ∃ kc, kc = kCells := ⟨_, rfl⟩
  rw [← hkc]
  have HK := Lib.hid hkc
  clear hkc
  obtain ⟨b, hb⟩ : ∃ b, b = fB (byN t) := ⟨_, rfl⟩
  rw [← hb]
  have hlt : ∀ i, b i < 256 := by rw [hb]; exact fB_lt _ (byN_lt t)
  have HB := Lib.hid hb
  clear hb
  go_enter Tryd.func27, Tryd.ntmps27
  go_wp2
  go_loopg [8] 64 (fun k v8 wr => ∃ i : Nat, v8 = .int .i64 i ∧ i ≤ 64 ∧ BI w s b i wr ∧ k = 64 - i)
  case atStart =>
    refine ⟨0, rfl, by omega, ⟨?_, ?_, ?_, ?_, ?_⟩, rfl⟩
    · exact ((((Below.refl _ _).alloc (Nat.le_refl _) _).alloc (by simp) _).alloc (by simp; omega) _).alloc (by simp; omega) _
    · rw [Below.heap_alloc _ _ _ (by simp; omega), Below.heap_alloc _ _ _ (by simp; omega), Below.heap_alloc _ _ _ (by simp)]
      exact alloc_new _ _ _ (by simp)
    · rw [Below.heap_alloc _ _ _ (by simp), Below.heap_alloc _ _ _ (by simp), ← HK.out]
      exact alloc_new _ _ _ (by simp)
    · rw [Below.heap_alloc _ _ _ (by simp)]
      exact alloc_new _ _ _ (by simp)
    · rw [show wA b 0 = Array.replicate 64 (.int .u32 0) from by unfold wA; rfl]
      exact alloc_new _ _ _ (by simp)
  case round =>
    obtain ⟨i, rfl, hi, R, rfl⟩ := hrel
    by_cases hi64 : i < 64
    · obtain ⟨v0, hv0⟩ := row_some R.w i (by rw [wA_size]; exact hi64)
      have hf0 := block_frozen R.w i
      by_cases h16 : i < 16
      · obtain ⟨e0, e1, e2, e3, n0, n1, n2, n3, l0, l1, l2, l3, m0, m1, m2, m3⟩ := idx4 i h16
        have y0 : ∀ h, (((t[4 * i]'h).toNat : Nat) : Int) = ((b (4 * i) : Nat) : Int) := fun h => by rw [HB.out]; exact byN_at t (4 * i) h
        have y1 : ∀ h, (((t[4 * i + 1]'h).toNat : Nat) : Int) = ((b (4 * i + 1) : Nat) : Int) := fun h => by rw [HB.out]; exact byN_at t (4 * i + 1) h
        have y2 : ∀ h, (((t[4 * i + 2]'h).toNat : Nat) : Int) = ((b (4 * i + 2) : Nat) : Int) := fun h => by rw [HB.out]; exact byN_at t (4 * i + 2) h
        have y3 : ∀ h, (((t[4 * i + 3]'h).toNat : Nat) : Int) = ((b (4 * i + 3) : Nat) : Int) := fun h => by rw [HB.out]; exact byN_at t (4 * i + 3) h
        have hw := (W_word b i h16).symm
        unfold word at hw
        have d0 := hlt (4 * i)
        have d1 := hlt (4 * i + 1)
        have d2 := hlt (4 * i + 2)
        have d3 := hlt (4 * i + 3)
        revert y0 y1 y2 y3 hw d0 d1 d2 d3
        generalize b (4 * i) = c0
        generalize b (4 * i + 1) = c1
        generalize b (4 * i + 2) = c2
        generalize b (4 * i + 3) = c3
        intro y0 y1 y2 y3 hw d0 d1 d2 d3
        obtain ⟨w0, w1, w2, w3, z0, z1, z2, a1, a2, a3, hsum⟩ := sums c0 c1 c2 c3 d0 d1 d2 d3
        rw [hw] at hsum
        have n5 : ((i : Int)).toNat = i := by omega
        have hmod : (W b i : Int) % 4294967296 = (W b i : Int) := by have := W_lt b i hlt; omega
        clear hw d0 d1 d2 d3
        go_wp2
        refine QT.wp_region_draws_tail 31 (by kernel_rfl) (by kernel_rfl) ?_
        simp only [List.take_succ_cons, List.take_zero, List.drop_succ_cons, List.drop_zero]
        repeat (quiet_step (fail))
        refine wpQuiet_nil ?_
        intro _ hw'
        obtain ⟨nq, hw''⟩ := hw'
        subst hw''
        go_wp2
        clear e0 e1 e2 e3 n0 n1 n2 n3 l0 l1 l2 l3 m0 m1 m2 m3 w0 w1 w2 w3 z0 z1 z2 a1 a2 a3 hsum y0 y1 y2 y3 hmod n5
        go_roundg (64 - (i + 1))
        case measure => omega
        case rel => exact ⟨i + 1, by simp, by omega, (R.drewN nq).put rfl, rfl⟩
      · obtain ⟨e15, n15, l15, m15⟩ := idxS15 i (by omega) hi64
        obtain ⟨e2, n2, l2, m2⟩ := idxS2 i (by omega) hi64
        obtain ⟨e16, n16, l16, m16⟩ := idxS16 i (by omega) hi64
        obtain ⟨e7, n7, l7, m7⟩ := idxS7 i (by omega) hi64
        have n5 : ((i : Int)).toNat = i := by omega
        have p7 : (7 : Int) ≤ (i : Int) := by omega
        have p2 : (2 : Int) ≤ (i : Int) := by omega
        have p15 : (15 : Int) ≤ (i : Int) := by omega
        have p16 : (16 : Int) ≤ (i : Int) := by omega
        have x15 := R.get (i - 15) (by omega) hi
        have x2 := R.get (i - 2) (by omega) hi
        have x16 := R.get (i - 16) (by omega) hi
        have x7 := R.get (i - 7) (by omega) hi
        have HW := W_next b i (by omega)
        have b15 := W_lt b (i - 15) hlt
        have b2 := W_lt b (i - 2) hlt
        revert x15 x2 x16 x7 HW b15 b2
        generalize W b (i - 15) = X15
        generalize W b (i - 2) = X2
        generalize W b (i - 7) = X7
        generalize W b (i - 16) = X16
        intro x15 x2 x16 x7 HW b15 b2
        have HV := Lib.hid HW
        clear HW
        go_wp2
        go_quiet (fail)
        go_wp2
        have R2 := R.drewN nq
        have g16 : (wr.drewN nq).cell? ⟨w.heap.size + 1 + 1 + 1, i - 16, none⟩ = some (.int .u32 (X16 : Int)) := x16
        have g7 : (wr.drewN nq).cell? ⟨w.heap.size + 1 + 1 + 1, i - 7, none⟩ = some (.int .u32 (X7 : Int)) := x7
        have gv : (wr.drewN nq).cell? ⟨w.heap.size + 1 + 1 + 1, i, none⟩ = some v0 := hv0
        have gf : (wr.drewN nq).frozen? ⟨w.heap.size + 1 + 1 + 1, i, none⟩ = false := hf0
        clear x15 x2 x16 x7 e15 n15 l15 m15 e2 n2 l2 m2 hv0 hf0
        generalize wr.drewN nq = wq at R2 g16 g7 gv gf ⊢
        refine QT.wp_region_draws_tail 29 (by kernel_rfl) (by kernel_rfl) ?_
        simp only [List.take_succ_cons, List.take_zero, List.drop_succ_cons, List.drop_zero]
        repeat (quiet_step ((go_at_call 31; exact r_nat _ _ _ _ (by assumption) (by decide) (by decide))))
        refine wpQuiet_nil ?_
        intro _ hw'
        obtain ⟨nq2, hw''⟩ := hw'
        subst hw''
        go_wp2
        rw [next_eq2 X16 X15 X7 X2 b15 b2]
        go_roundg (64 - (i + 1))
        case measure => clear n5 n16 n7 l16 l7 m16 m7 e16 e7; omega
        case rel => exact ⟨i + 1, by simp, by omega, (R2.drewN nq2).put HV.out.symm, rfl⟩
    · have h64 : i = 64 := by omega
      subst h64
      have hv0 : wr.cell? ⟨w.heap.size, 0, none⟩ = some (.int .u32 (s.a : Int)) := block_cell R.v 0
      have hv1 : wr.cell? ⟨w.heap.size, 1, none⟩ = some (.int .u32 (s.b : Int)) := block_cell R.v 1
      have hv2 : wr.cell? ⟨w.heap.size, 2, none⟩ = some (.int .u32 (s.c : Int)) := block_cell R.v 2
      have hv3 : wr.cell? ⟨w.heap.size, 3, none⟩ = some (.int .u32 (s.d : Int)) := block_cell R.v 3
      have hv4 : wr.cell? ⟨w.heap.size, 4, none⟩ = some (.int .u32 (s.e : Int)) := block_cell R.v 4
      have hv5 : wr.cell? ⟨w.heap.size, 5, none⟩ = some (.int .u32 (s.f : Int)) := block_cell R.v 5
      have hv6 : wr.cell? ⟨w.heap.size, 6, none⟩ = some (.int .u32 (s.g : Int)) := block_cell R.v 6
      have hv7 : wr.cell? ⟨w.heap.size, 7, none⟩ = some (.int .u32 (s.h : Int)) := block_cell R.v 7
      have hlt0 : w.heap.size + 1 + 1 + 1 < wr.heap.size := lt_of_block R.w
      go_wp2
      obtain ⟨wo, rfl⟩ : ∃ wo : World, wo = wr := ⟨_, rfl⟩
      clear hv0 hv1 hv2 hv3 hv4 hv5 hv6 hv7
      go_loopg [12] 64 (fun k v12 wr => ∃ i : Nat, v12 = .int .i64 i ∧ i ≤ 64 ∧ CI w s b wo.heap.size i wr ∧ k = 64 - i)
      case atStart =>
        refine ⟨0, rfl, by omega, ⟨?_, ?_, ?_, ?_, ?_, ?_, ?_⟩, rfl⟩
        · exact R.below.alloc R.below.size _
        · exact hlt0
        · rw [Below.heap_alloc _ _ _ (by omega)]; exact R.v
        · rw [Below.heap_alloc _ _ _ (by omega)]; exact R.k
        · rw [Below.heap_alloc _ _ _ (by omega)]; exact R.out
        · rw [Below.heap_alloc _ _ _ (by omega)]; exact R.w
        · rw [nows_zero]
          exact alloc_new _ _ _ rfl
      case round =>
        obtain ⟨i, rfl, hi, R2, rfl⟩ := hrel
        by_cases hi64 : i < 64
        · have hok : (nows b s i).ok := nows_ok b s hs i
          obtain ⟨ka, kb, kc', kd, ke, kf, kg, kh⟩ := hok
          have hn0 : wr.cell? ⟨wo.heap.size, 0, none⟩ = some (.int .u32 ((nows b s i).a : Int)) := block_cell R2.n 0
          have hn4 : wr.cell? ⟨wo.heap.size, 4, none⟩ = some (.int .u32 ((nows b s i).e : Int)) := block_cell R2.n 4
          have n5 : ((i : Int)).toNat = i := by omega
          go_wp2
          go_quiet (fail)
          go_wp2
          have R3 := R2.drewN nq
          clear hn0 hn4 R2
          generalize wr.drewN nq = wq at R3 ⊢
          have hn1 : wq.cell? ⟨wo.heap.size, 1, none⟩ = some (.int .u32 ((nows b s i).b : Int)) := block_cell R3.n 1
          have hn2 : wq.cell? ⟨wo.heap.size, 2, none⟩ = some (.int .u32 ((nows b s i).c : Int)) := block_cell R3.n 2
          have hn5 : wq.cell? ⟨wo.heap.size, 5, none⟩ = some (.int .u32 ((nows b s i).f : Int)) := block_cell R3.n 5
          have hn6 : wq.cell? ⟨wo.heap.size, 6, none⟩ = some (.int .u32 ((nows b s i).g : Int)) := block_cell R3.n 6
          have hn7 : wq.cell? ⟨wo.heap.size, 7, none⟩ = some (.int .u32 ((nows b s i).h : Int)) := block_cell R3.n 7
          have hW := R3.getW i hi64
          have hK := R3.getK i hi64
          go_quiet ((go_at_call 31; exact r_nat _ _ _ _ (by assumption) (by decide) (by decide)))
          go_wp2
          rw [tN_ref (nows b s i).a (nows b s i).b (nows b s i).c (nows b s i).d (nows b s i).e (nows b s i).f (nows b s i).g (nows b s i).h (kk i) (W b i) ke kf kg]
          have hR := round_ref (nows b s i) (kk i) (W b i)
          rw [nows_succ] at hR
          clear hW hK hn1 hn2 hn5 hn6 hn7
          have R4 := R3.drewN nq
          clear R3
          revert hR
          show _ → Code.wp _ _ _ _ _
          generalize tN (nows b s i) (kk i) (W b i) % 4294967296 = tm
          intro hR
          generalize wq.drewN nq = wq at R4 ⊢
          have hn1 : wq.cell? ⟨wo.heap.size, 1, none⟩ = some (.int .u32 ((nows b s i).b : Int)) := block_cell R4.n 1
          have hn2 : wq.cell? ⟨wo.heap.size, 2, none⟩ = some (.int .u32 ((nows b s i).c : Int)) := block_cell R4.n 2
          refine QT.wp_region_draws_tail 24 (by kernel_rfl) (by kernel_rfl) ?_
          simp only [List.take_succ_cons, List.take_zero, List.drop_succ_cons, List.drop_zero]
          repeat (quiet_step ((go_at_call 31; exact r_nat _ _ _ _ (by assumption) (by decide) (by decide))))
          refine wpQuiet_nil ?_
          intro _ hw'
          obtain ⟨nq, hw''⟩ := hw'
          subst hw''
          clear hn1 hn2
          have R5 := R4.drewN nq
          clear R4
          generalize wq.drewN nq = wz at R5 ⊢
          rw [uN_ref (nows b s i).a (nows b s i).b (nows b s i).c (nows b s i).d (nows b s i).e (nows b s i).f (nows b s i).g (nows b s i).h ka kb kc']
          revert hR
          show _ → _
          generalize uN (nows b s i) % 4294967296 = um
          intro hR
          have hn0 : wz.cell? ⟨wo.heap.size, 0, none⟩ = some (.int .u32 ((nows b s i).a : Int)) := block_cell R5.n 0
          have hn1 : wz.cell? ⟨wo.heap.size, 1, none⟩ = some (.int .u32 ((nows b s i).b : Int)) := block_cell R5.n 1
          have hn2 : wz.cell? ⟨wo.heap.size, 2, none⟩ = some (.int .u32 ((nows b s i).c : Int)) := block_cell R5.n 2
          have hn3 : wz.cell? ⟨wo.heap.size, 3, none⟩ = some (.int .u32 ((nows b s i).d : Int)) := block_cell R5.n 3
          have hn4 : wz.cell? ⟨wo.heap.size, 4, none⟩ = some (.int .u32 ((nows b s i).e : Int)) := block_cell R5.n 4
          have hn5 : wz.cell? ⟨wo.heap.size, 5, none⟩ = some (.int .u32 ((nows b s i).f : Int)) := block_cell R5.n 5
          have hn6 : wz.cell? ⟨wo.heap.size, 6, none⟩ = some (.int .u32 ((nows b s i).g : Int)) := block_cell R5.n 6
          have hn7 : wz.cell? ⟨wo.heap.size, 7, none⟩ = some (.int .u32 ((nows b s i).h : Int)) := block_cell R5.n 7
          have hf := fun k => block_frozen R5.n k
          go_wp2
          rw [show ((tm : Int) + um) % 4294967296 = (((tm + um) % 4294967296 : Nat) : Int) from by omega, show (((nows b s i).d : Int) + tm) % 4294967296 = ((((nows b s i).d + tm) % 4294967296 : Nat) : Int) from by omega]
          have R6 := R5.put8 hR
          clear hn0 hn1 hn2 hn3 hn4 hn5 hn6 hn7 hf hR R5
          go_roundg (64 - (i + 1))
          case measure => clear ka kb kc' kd ke kf kg kh; omega
          case rel => exact ⟨i + 1, by simp, by clear ka kb kc' kd ke kf kg kh; omega, R6, rfl⟩
        · have h64' : i = 64 := by omega
          subst h64'
          go_wp2
          go_loopg [17] 8 (fun k v17 wr => ∃ i : Nat, v17 = .int .i64 i ∧ i ≤ 8 ∧ DI w s (nows b s 64) wo.heap.size i wr ∧ k = 8 - i)
          case atStart => exact ⟨0, rfl, by omega, ⟨R2.below, R2.lt, R2.v, R2.out, R2.n⟩, rfl⟩
          case round =>
            obtain ⟨i, rfl, hi, R3, rfl⟩ := hrel
            by_cases hi8 : i < 8
            · have n5 : ((i : Int)).toNat = i := by omega
              have hs0 : wr.cell? ⟨w.heap.size, i, none⟩ = some (.int .u32 (nth s i : Int)) := by rw [block_cell R3.v]; exact vL_get _ _ _ _ (Nat.le_refl _) hi8
              have hn0 : wr.cell? ⟨wo.heap.size, i, none⟩ = some (.int .u32 (nth (nows b s 64) i : Int)) := by rw [block_cell R3.n]; exact cells_nth _ i hi8
              have hf := block_frozen R3.v i
              go_wp2
              refine QT.wp_region_draws_tail 9 (by kernel_rfl) (by kernel_rfl) ?_
              simp only [List.take_succ_cons, List.take_zero, List.drop_succ_cons, List.drop_zero]
              repeat (quiet_step (fail))
              refine wpQuiet_nil ?_
              intro _ hw'
              obtain ⟨nq, hw''⟩ := hw'
              subst hw''
              go_wp2
              go_roundg (8 - (i + 1))
              case measure => omega
              case rel => exact ⟨i + 1, by simp, by omega, R3.put nq (by omega), rfl⟩
            · have h8 : i = 8 := by omega
              subst h8
              have hV := R3.v
              rw [vL_all] at hV
              have hv0 : wr.cell? ⟨w.heap.size, 0, none⟩ = some (.int .u32 ((addN s (nows b s 64)).a : Int)) := block_cell hV 0
              have hv1 : wr.cell? ⟨w.heap.size, 1, none⟩ = some (.int .u32 ((addN s (nows b s 64)).b : Int)) := block_cell hV 1
              have hv2 : wr.cell? ⟨w.heap.size, 2, none⟩ = some (.int .u32 ((addN s (nows b s 64)).c : Int)) := block_cell hV 2
              have hv3 : wr.cell? ⟨w.heap.size, 3, none⟩ = some (.int .u32 ((addN s (nows b s 64)).d : Int)) := block_cell hV 3
              have hv4 : wr.cell? ⟨w.heap.size, 4, none⟩ = some (.int .u32 ((addN s (nows b s 64)).e : Int)) := block_cell hV 4
              have hv5 : wr.cell? ⟨w.heap.size, 5, none⟩ = some (.int .u32 ((addN s (nows b s 64)).f : Int)) := block_cell hV 5
              have hv6 : wr.cell? ⟨w.heap.size, 6, none⟩ = some (.int .u32 ((addN s (nows b s 64)).g : Int)) := block_cell hV 6
              have hv7 : wr.cell? ⟨w.heap.size, 7, none⟩ = some (.int .u32 ((addN s (nows b s 64)).h : Int)) := block_cell hV 7
              have ho0 : wr.cell? ⟨w.heap.size + 1 + 1, 0, none⟩ = some (.int .u32 0) := block_cell R3.out 0
              have ho1 : wr.cell? ⟨w.heap.size + 1 + 1, 1, none⟩ = some (.int .u32 0) := block_cell R3.out 1
              have ho2 : wr.cell? ⟨w.heap.size + 1 + 1, 2, none⟩ = some (.int .u32 0) := block_cell R3.out 2
              have ho3 : wr.cell? ⟨w.heap.size + 1 + 1, 3, none⟩ = some (.int .u32 0) := block_cell R3.out 3
              have ho4 : wr.cell? ⟨w.heap.size + 1 + 1, 4, none⟩ = some (.int .u32 0) := block_cell R3.out 4
              have ho5 : wr.cell? ⟨w.heap.size + 1 + 1, 5, none⟩ = some (.int .u32 0) := block_cell R3.out 5
              have ho6 : wr.cell? ⟨w.heap.size + 1 + 1, 6, none⟩ = some (.int .u32 0) := block_cell R3.out 6
              have ho7 : wr.cell? ⟨w.heap.size + 1 + 1, 7, none⟩ = some (.int .u32 0) := block_cell R3.out 7
              have hfo := fun k => block_frozen R3.out k
              go_wp2
              have hrow := block_put8 (c0 := .int .u32 0) R3.out (.int .u32 ((addN s (nows b s 64)).a : Int)) (.int .u32 ((addN s (nows b s 64)).b : Int)) (.int .u32 ((addN s (nows b s 64)).c : Int)) (.int .u32 ((addN s (nows b s 64)).d : Int)) (.int .u32 ((addN s (nows b s 64)).e : Int)) (.int .u32 ((addN s (nows b s 64)).f : Int)) (.int .u32 ((addN s (nows b s 64)).g : Int)) (.int .u32 ((addN s (nows b s 64)).h : Int))
              refine bodyPost_ret (v := (blockN s b).val) ?_ rfl ⟨rfl, ?_⟩
              · exact results_cell_row Tryd.results27 _ _ _ _ _ _ _ rfl hrow Tryd.underlying51 rfl size51
              · exact ((((((((R3.below.setCell (by simp; omega) _).setCell (by simp; omega) _).setCell (by simp; omega) _).setCell (by simp; omega) _).setCell (by simp; omega) _).setCell (by simp; omega) _).setCell (by simp; omega) _).setCell (by simp; omega) _)
end Go.Proofs.YtegjphfkkafomaaDoor.Sha
