/- The numbers behind a block: the program's walk. -/
import Derived.Test.YtegjphfkkafomaaDoorSha2
import Derived.Test.YtegjphfkkafomaaDoorQTail
import Derived.RangeFuncRecord
namespace Go.Proofs.YtegjphfkkafomaaDoor.Sha
open Go.RowKit Go.Proofs Go.Proofs.YtegjphfkkafomaaDoor.Q Go.Proofs.YtegjphfkkafomaaDoorW.PrintWords Go.Proofs.YtegjphfkkafomaaDoorW.PrintLast Go.Proofs.YtegjphfkkafomaaDoorW.PrintMore

def kCells : Array Value := (KS.map fun z : Nat => Value.int .u32 ((z : Nat) : Int)).toArray
def NS.cells (s : NS) : Array Value := #[.int .u32 (s.a : Int), .int .u32 (s.b : Int), .int .u32 (s.c : Int), .int .u32 (s.d : Int), .int .u32 (s.e : Int), .int .u32 (s.f : Int), .int .u32 (s.g : Int), .int .u32 (s.h : Int)]
/-- The two tables hold what the program lays. -/
structure Laid (w : World) : Prop where
  b : ∃ t fr, w.heap[0]? = some (.cells beginN.cells t fr)
  k : ∃ t fr, w.heap[1]? = some (.cells kCells t fr)

theorem size50 : (Tryd.prog.info? 50).map (·.size) = some kCells.size := by kernel_rfl
theorem size36 : (Tryd.prog.info? 36).map (·.size) = some 8 := by kernel_rfl
theorem und50 : Tryd.prog.underlying 50 = some (.array 64 34) := by kernel_rfl

theorem block_cell {w : World} {g : Nat} {cs : Array Value} {t : TypeId} {fr : Nat × Nat} (h : w.heap[g]? = some (.cells cs t fr)) (j : Nat) : w.cell? ⟨g, j, none⟩ = cs[j]? := by
  simp [World.cell?, h]
theorem block_frozen {w : World} {g : Nat} {cs : Array Value} {t : TypeId} (h : w.heap[g]? = some (.cells cs t (0, 0))) (j : Nat) : w.frozen? ⟨g, j, none⟩ = false := by
  simp only [World.frozen?, h]
  simp
theorem block_set {w : World} {g : Nat} {cs : Array Value} {t : TypeId} {fr : Nat × Nat} (h : w.heap[g]? = some (.cells cs t fr)) (j : Nat) (v : Value) : (w.setCell ⟨g, j, none⟩ v).heap[g]? = some (.cells (cs.setIfInBounds j v) t fr) := by
  simp only [World.setCell, Array.getElem?_modify]
  rw [if_pos trivial, h]
  rfl

/-- The ring of the last sixteen numbers. -/
def ringC (b : Nat → Nat) : Nat → Array Value
  | 0 => #[.int .u32 0, .int .u32 0, .int .u32 0, .int .u32 0, .int .u32 0, .int .u32 0, .int .u32 0, .int .u32 0, .int .u32 0, .int .u32 0, .int .u32 0, .int .u32 0, .int .u32 0, .int .u32 0, .int .u32 0, .int .u32 0]
  | i + 1 => (ringC b i).setIfInBounds (i % 16) (.int .u32 (W b i : Int))
theorem ring_size (b : Nat → Nat) : ∀ i, (ringC b i).size = 16
  | 0 => rfl
  | i + 1 => by unfold ringC; rw [Array.size_setIfInBounds]; exact ring_size b i
theorem ring_get (b : Nat → Nat) : ∀ i j, j < i → i ≤ j + 16 → (ringC b i)[j % 16]? = some (.int .u32 (W b j : Int))
  | 0, j, h, _ => by omega
  | i + 1, j, h, h1 => by
    unfold ringC
    by_cases e : j = i
    · subst e
      rw [Array.getElem?_setIfInBounds_self_of_lt (by rw [ring_size]; omega)]
    · rw [Array.getElem?_setIfInBounds_ne (by omega)]
      exact ring_get b i j (by omega) (by omega)
/-- A number of four bytes, as the program joins them. -/
theorem word_or (b0 b1 b2 b3 : Nat) (h0 : b0 < 256) (h1 : b1 < 256) (h2 : b2 < 256) (h3 : b3 < 256) :
    Go.bits .or .u32 (Go.bits .or .u32 (Go.bits .or .u32 ((b0 : Int) * 16777216) ((b1 : Int) * 65536)) ((b2 : Int) * 256)) (b3 : Int) = ((b0 * 16777216 + b1 * 65536 + b2 * 256 + b3 : Nat) : Int) := by
  rw [show (b0 : Int) * 16777216 = ((b0 * 16777216 : Nat) : Int) from by omega, show (b1 : Int) * 65536 = ((b1 * 65536 : Nat) : Int) from by omega, show (b2 : Int) * 256 = ((b2 * 256 : Nat) : Int) from by omega]
  rw [u32_or_nat _ _ (by omega) (by omega), nat_join 24 _ _ (by omega) (by omega), u32_or_nat _ _ (by omega) (by omega), nat_join 16 _ _ (by omega) (by omega), u32_or_nat _ _ (by omega) (by omega), nat_join 8 _ _ (by omega) (by omega)]
theorem idx0 (i : Nat) : ((i : Int) % 16).toNat = i % 16 ∧ 0 ≤ (i : Int) % 16 ∧ (i : Int) % 16 < 16 := by omega
theorem idx1 (i : Nat) (hi : i < 64) : IntKind.i64.wrap ((i : Int) + 1) = (i : Int) + 1 ∧ Int.tmod ((i : Int) + 1) 16 = ((i : Int) + 1) % 16 ∧ IntKind.i64.wrap (((i : Int) + 1) % 16) = ((i : Int) + 1) % 16 ∧
    (((i : Int) + 1) % 16).toNat = (i + 1) % 16 ∧ 0 ≤ ((i : Int) + 1) % 16 ∧ ((i : Int) + 1) % 16 < 16 := by
  refine ⟨by rw [IntKind.wrap_i64]; omega, Int.tmod_eq_emod_of_nonneg (by omega), by rw [IntKind.wrap_i64]; omega, by omega, by omega, by omega⟩
theorem idx14 (i : Nat) (hi : i < 64) : IntKind.i64.wrap ((i : Int) + 14) = (i : Int) + 14 ∧ Int.tmod ((i : Int) + 14) 16 = ((i : Int) + 14) % 16 ∧ IntKind.i64.wrap (((i : Int) + 14) % 16) = ((i : Int) + 14) % 16 ∧
    (((i : Int) + 14) % 16).toNat = (i + 14) % 16 ∧ 0 ≤ ((i : Int) + 14) % 16 ∧ ((i : Int) + 14) % 16 < 16 := by
  refine ⟨by rw [IntKind.wrap_i64]; omega, Int.tmod_eq_emod_of_nonneg (by omega), by rw [IntKind.wrap_i64]; omega, by omega, by omega, by omega⟩
theorem idx9 (i : Nat) (hi : i < 64) : IntKind.i64.wrap ((i : Int) + 9) = (i : Int) + 9 ∧ Int.tmod ((i : Int) + 9) 16 = ((i : Int) + 9) % 16 ∧ IntKind.i64.wrap (((i : Int) + 9) % 16) = ((i : Int) + 9) % 16 ∧
    (((i : Int) + 9) % 16).toNat = (i + 9) % 16 ∧ 0 ≤ ((i : Int) + 9) % 16 ∧ ((i : Int) + 9) % 16 < 16 := by
  refine ⟨by rw [IntKind.wrap_i64]; omega, Int.tmod_eq_emod_of_nonneg (by omega), by rw [IntKind.wrap_i64]; omega, by omega, by omega, by omega⟩
def zero8 : Array Value := #[.int .u32 0, .int .u32 0, .int .u32 0, .int .u32 0, .int .u32 0, .int .u32 0, .int .u32 0, .int .u32 0]

theorem down_nat (x k : Nat) (w : World) (m : Nat) (hx : x < 4294967296) (hk : 1 ≤ k) (hk1 : k ≤ 31) :
    Calls Tryd.prog 35 #[.int .u32 (x : Int), .int .i64 (k : Int)] (w.drewN m) fun e w' => e = .returned (.int .u32 ((rotN x k : Nat) : Int)) ∧ ∃ n, w' = w.drewN n := by
  have h := down_quiet (x : Int) k w m (Int.natCast_nonneg _) (Int.ofNat_lt.2 hx) hk hk1
  rwa [rotN_cast] at h
theorem next_eq (a x z y : Nat) (hx : x < 4294967296) (hy : y < 4294967296) :
    ((a : Int) + ((Go.bits .xor .u32 (Go.bits .xor .u32 ((rotN x 7 : Nat) : Int) ((rotN x 18 : Nat) : Int)) ((x : Int) / 8) + (z : Int)) % 4294967296 +
      Go.bits .xor .u32 (Go.bits .xor .u32 ((rotN y 17 : Nat) : Int) ((rotN y 19 : Nat) : Int)) ((y : Int) / 1024)) % 4294967296) % 4294967296 = ((nextW a x z y : Nat) : Int) := by
  have r7 := rotN_lt x 7 hx (by decide)
  have r18 := rotN_lt x 18 hx (by decide)
  have r17 := rotN_lt y 17 hy (by decide)
  have r19 := rotN_lt y 19 hy (by decide)
  rw [show (x : Int) / 8 = ((x / 8 : Nat) : Int) from rfl, show (y : Int) / 1024 = ((y / 1024 : Nat) : Int) from rfl]
  rw [u32_xor_nat _ _ r7 r18, u32_xor_nat _ _ (xor_lt32 r7 r18) (by omega), u32_xor_nat _ _ r17 r19, u32_xor_nat _ _ (xor_lt32 r17 r19) (by omega)]
  unfold nextW s0 s1
  generalize rotN x 7 ^^^ rotN x 18 ^^^ x / 8 = p
  generalize rotN y 17 ^^^ rotN y 19 ^^^ y / 1024 = q
  omega
/-- Inside the loop: the ring is that of round i, the numbers those of round j. -/
structure RI (s : NS) (b : Nat → Nat) (w wr : World) (i j : Nat) : Prop where
  below : Below w.heap.size w wr
  s0 : wr.heap[w.heap.size]? = some (.cells s.cells 36 (0, 0))
  out : wr.heap[w.heap.size + 1]? = some (.cells zero8 36 (0, 0))
  ring : wr.heap[w.heap.size + 1 + 1]? = some (.cells (ringC b i) 62 (0, 0))
  now : wr.heap[w.heap.size + 1 + 1 + 1]? = some (.cells (nows b s j).cells 36 (0, 0))
theorem RI.load {s : NS} {b : Nat → Nat} {w wr : World} {i j : Nat} (h : RI s b w wr i j) (k : Nat) (h1 : k < i) (h2 : i ≤ k + 16) : wr.cell? ⟨w.heap.size + 1 + 1, k % 16, none⟩ = some (.int .u32 (W b k : Int)) := by
  rw [block_cell h.ring]
  exact ring_get b i k h1 h2
theorem RI.loadAt {s : NS} {b : Nat → Nat} {w wr : World} {i j : Nat} (h : RI s b w wr i j) (k m : Nat) (h1 : k < i) (h2 : i ≤ k + 16) (h3 : k % 16 = m % 16) : wr.cell? ⟨w.heap.size + 1 + 1, m % 16, none⟩ = some (.int .u32 (W b k : Int)) := by
  rw [← h3]
  exact h.load k h1 h2
theorem RI.slot {s : NS} {b : Nat → Nat} {w wr : World} {i j : Nat} (h : RI s b w wr i j) (k : Nat) (h1 : k < 16) : ∃ v, wr.cell? ⟨w.heap.size + 1 + 1, k, none⟩ = some v := by
  rw [block_cell h.ring, Array.getElem?_eq_getElem (by rw [ring_size]; exact h1)]
  exact ⟨_, rfl⟩
theorem RI.free {s : NS} {b : Nat → Nat} {w wr : World} {i j : Nat} (h : RI s b w wr i j) (k : Nat) : wr.frozen? ⟨w.heap.size + 1 + 1, k, none⟩ = false := block_frozen h.ring k
theorem RI.put {s : NS} {b : Nat → Nat} {w wr : World} {i j : Nat} (h : RI s b w wr i j) (n : Nat) : RI s b w ((wr.drewN n).setCell ⟨w.heap.size + 1 + 1, i % 16, none⟩ (.int .u32 (W b i : Int))) (i + 1) j where
  below := (pw_below_drewN h.below n).setCell (by simp; omega) _
  s0 := by rw [Below.heap_setCell _ _ _ _ (by simp; omega)]; exact h.s0
  out := by rw [Below.heap_setCell _ _ _ _ (by simp)]; exact h.out
  ring := block_set (w := wr.drewN n) h.ring _ _
  now := by rw [Below.heap_setCell _ _ _ _ (by simp)]; exact h.now

theorem round_lit (s : NS) (k x : Nat) (w : World) (hs : s.ok) :
    Calls Tryd.prog 36 #[.agg #[.int .u32 (s.a : Int), .int .u32 (s.b : Int), .int .u32 (s.c : Int), .int .u32 (s.d : Int), .int .u32 (s.e : Int), .int .u32 (s.f : Int), .int .u32 (s.g : Int), .int .u32 (s.h : Int)], .int .u32 (k : Int), .int .u32 (x : Int)] w fun e w' => e = .returned (.agg #[.int .u32 ((roundN s k x).a : Int), .int .u32 ((roundN s k x).b : Int), .int .u32 ((roundN s k x).c : Int), .int .u32 ((roundN s k x).d : Int), .int .u32 ((roundN s k x).e : Int), .int .u32 ((roundN s k x).f : Int), .int .u32 ((roundN s k x).g : Int), .int .u32 ((roundN s k x).h : Int)]) ∧ Below w.heap.size w w' := round_nat s k x w hs
theorem and_lit (s t : NS) (w : World) : Calls Tryd.prog 37 #[.agg #[.int .u32 (s.a : Int), .int .u32 (s.b : Int), .int .u32 (s.c : Int), .int .u32 (s.d : Int), .int .u32 (s.e : Int), .int .u32 (s.f : Int), .int .u32 (s.g : Int), .int .u32 (s.h : Int)], .agg #[.int .u32 (t.a : Int), .int .u32 (t.b : Int), .int .u32 (t.c : Int), .int .u32 (t.d : Int), .int .u32 (t.e : Int), .int .u32 (t.f : Int), .int .u32 (t.g : Int), .int .u32 (t.h : Int)]] w fun e w' => e = .returned (.agg #[.int .u32 ((addN s t).a : Int), .int .u32 ((addN s t).b : Int), .int .u32 ((addN s t).c : Int), .int .u32 ((addN s t).d : Int), .int .u32 ((addN s t).e : Int), .int .u32 ((addN s t).f : Int), .int .u32 ((addN s t).g : Int), .int .u32 ((addN s t).h : Int)]) ∧ Below w.heap.size w w' := and_nat s t w

theorem RI.behind {s : NS} {b : Nat → Nat} {w w2 w3 : World} {i j : Nat} (h : RI s b w w2 i j) (hB : Below w2.heap.size w2 w3) : RI s b w w3 i j := by
  have lt : w.heap.size + 1 + 1 + 1 < w2.heap.size := by
    rcases Nat.lt_or_ge (w.heap.size + 1 + 1 + 1) w2.heap.size with h1 | h1
    · exact h1
    · have := h.now
      rw [Array.getElem?_eq_none h1] at this
      cases this
  exact ⟨h.below.trans (hB.mono (by omega)), by rw [hB.block _ (by omega)]; exact h.s0, by rw [hB.block _ (by omega)]; exact h.out, by rw [hB.block _ (by omega)]; exact h.ring, by rw [hB.block _ (by omega)]; exact h.now⟩

theorem block_put8 {w : World} {g : Nat} {t : TypeId} {fr : Nat × Nat} {c0 c1 c2 c3 c4 c5 c6 c7 : Value} (h : w.heap[g]? = some (.cells #[c0, c1, c2, c3, c4, c5, c6, c7] t fr)) (v0 v1 v2 v3 v4 v5 v6 v7 : Value) : ((((((((w.setCell ⟨g, 0, none⟩ v0).setCell ⟨g, 1, none⟩ v1).setCell ⟨g, 2, none⟩ v2).setCell ⟨g, 3, none⟩ v3).setCell ⟨g, 4, none⟩ v4).setCell ⟨g, 5, none⟩ v5).setCell ⟨g, 6, none⟩ v6).setCell ⟨g, 7, none⟩ v7).heap[g]? = some (.cells #[v0, v1, v2, v3, v4, v5, v6, v7] t fr) := by
  have h0 := block_set h 0 v0
  have h1 := block_set h0 1 v1
  have h2 := block_set h1 2 v2
  have h3 := block_set h2 3 v3
  have h4 := block_set h3 4 v4
  have h5 := block_set h4 5 v5
  have h6 := block_set h5 6 v6
  have h7 := block_set h6 7 v7
  simpa using h7
theorem RI.put8 {s : NS} {b : Nat → Nat} {w w3 : World} {i j : Nat} (h : RI s b w w3 i j) {t : NS} (ht : t = nows b s (j + 1)) : RI s b w
    ((((((((w3.setCell ⟨w.heap.size + 1 + 1 + 1, 0, none⟩ (.int .u32 (t.a : Int))).setCell ⟨w.heap.size + 1 + 1 + 1, 1, none⟩ (.int .u32 (t.b : Int))).setCell ⟨w.heap.size + 1 + 1 + 1, 2, none⟩ (.int .u32 (t.c : Int))).setCell ⟨w.heap.size + 1 + 1 + 1, 3, none⟩ (.int .u32 (t.d : Int))).setCell ⟨w.heap.size + 1 + 1 + 1, 4, none⟩ (.int .u32 (t.e : Int))).setCell ⟨w.heap.size + 1 + 1 + 1, 5, none⟩ (.int .u32 (t.f : Int))).setCell ⟨w.heap.size + 1 + 1 + 1, 6, none⟩ (.int .u32 (t.g : Int))).setCell ⟨w.heap.size + 1 + 1 + 1, 7, none⟩ (.int .u32 (t.h : Int))) i (j + 1) where
  below := ((((((((h.below.setCell (by simp; omega) _).setCell (by simp; omega) _).setCell (by simp; omega) _).setCell (by simp; omega) _).setCell (by simp; omega) _).setCell (by simp; omega) _).setCell (by simp; omega) _).setCell (by simp; omega) _)
  s0 := by rw [Below.heap_setCell _ _ _ _ (by simp; omega), Below.heap_setCell _ _ _ _ (by simp; omega), Below.heap_setCell _ _ _ _ (by simp; omega), Below.heap_setCell _ _ _ _ (by simp; omega), Below.heap_setCell _ _ _ _ (by simp; omega), Below.heap_setCell _ _ _ _ (by simp; omega), Below.heap_setCell _ _ _ _ (by simp; omega), Below.heap_setCell _ _ _ _ (by simp; omega)]; exact h.s0
  out := by rw [Below.heap_setCell _ _ _ _ (by simp), Below.heap_setCell _ _ _ _ (by simp), Below.heap_setCell _ _ _ _ (by simp), Below.heap_setCell _ _ _ _ (by simp), Below.heap_setCell _ _ _ _ (by simp), Below.heap_setCell _ _ _ _ (by simp), Below.heap_setCell _ _ _ _ (by simp), Below.heap_setCell _ _ _ _ (by simp)]; exact h.out
  ring := by rw [Below.heap_setCell _ _ _ _ (by simp), Below.heap_setCell _ _ _ _ (by simp), Below.heap_setCell _ _ _ _ (by simp), Below.heap_setCell _ _ _ _ (by simp), Below.heap_setCell _ _ _ _ (by simp), Below.heap_setCell _ _ _ _ (by simp), Below.heap_setCell _ _ _ _ (by simp), Below.heap_setCell _ _ _ _ (by simp)]; exact h.ring
  now := by
    rw [← ht]
    exact block_put8 (c0 := .int .u32 ((nows b s j).a : Int)) h.now _ _ _ _ _ _ _ _

theorem nows_succ (b : Nat → Nat) (s : NS) (i : Nat) : roundN (nows b s i) (kk i) (W b i) = nows b s (i + 1) := rfl

theorem ring_zero (b : Nat → Nat) : ringC b 0 = #[.int .u32 0, .int .u32 0, .int .u32 0, .int .u32 0, .int .u32 0, .int .u32 0, .int .u32 0, .int .u32 0, .int .u32 0, .int .u32 0, .int .u32 0, .int .u32 0, .int .u32 0, .int .u32 0, .int .u32 0, .int .u32 0] := rfl
theorem nows_zero (b : Nat → Nat) (s : NS) : nows b s 0 = s := rfl
theorem alloc_new (w : World) (o : Obj) (g : Nat) (h : g = w.heap.size) : (w.alloc o).heap[g]? = some o := by
  rw [h]
  exact World.alloc_heap_new w o
theorem index_k : ∀ (i : Nat), i < 64 → ∀ w : World, (Instr.index 50 (.agg kCells) (.int .i64 (i : Int))).run Tryd.prog w = .ok (.int .u32 (kk i : Int)) w
  | 0, _, _ => by kernel_rfl
  | 1, _, _ => by kernel_rfl
  | 2, _, _ => by kernel_rfl
  | 3, _, _ => by kernel_rfl
  | 4, _, _ => by kernel_rfl
  | 5, _, _ => by kernel_rfl
  | 6, _, _ => by kernel_rfl
  | 7, _, _ => by kernel_rfl
  | 8, _, _ => by kernel_rfl
  | 9, _, _ => by kernel_rfl
  | 10, _, _ => by kernel_rfl
  | 11, _, _ => by kernel_rfl
  | 12, _, _ => by kernel_rfl
  | 13, _, _ => by kernel_rfl
  | 14, _, _ => by kernel_rfl
  | 15, _, _ => by kernel_rfl
  | 16, _, _ => by kernel_rfl
  | 17, _, _ => by kernel_rfl
  | 18, _, _ => by kernel_rfl
  | 19, _, _ => by kernel_rfl
  | 20, _, _ => by kernel_rfl
  | 21, _, _ => by kernel_rfl
  | 22, _, _ => by kernel_rfl
  | 23, _, _ => by kernel_rfl
  | 24, _, _ => by kernel_rfl
  | 25, _, _ => by kernel_rfl
  | 26, _, _ => by kernel_rfl
  | 27, _, _ => by kernel_rfl
  | 28, _, _ => by kernel_rfl
  | 29, _, _ => by kernel_rfl
  | 30, _, _ => by kernel_rfl
  | 31, _, _ => by kernel_rfl
  | 32, _, _ => by kernel_rfl
  | 33, _, _ => by kernel_rfl
  | 34, _, _ => by kernel_rfl
  | 35, _, _ => by kernel_rfl
  | 36, _, _ => by kernel_rfl
  | 37, _, _ => by kernel_rfl
  | 38, _, _ => by kernel_rfl
  | 39, _, _ => by kernel_rfl
  | 40, _, _ => by kernel_rfl
  | 41, _, _ => by kernel_rfl
  | 42, _, _ => by kernel_rfl
  | 43, _, _ => by kernel_rfl
  | 44, _, _ => by kernel_rfl
  | 45, _, _ => by kernel_rfl
  | 46, _, _ => by kernel_rfl
  | 47, _, _ => by kernel_rfl
  | 48, _, _ => by kernel_rfl
  | 49, _, _ => by kernel_rfl
  | 50, _, _ => by kernel_rfl
  | 51, _, _ => by kernel_rfl
  | 52, _, _ => by kernel_rfl
  | 53, _, _ => by kernel_rfl
  | 54, _, _ => by kernel_rfl
  | 55, _, _ => by kernel_rfl
  | 56, _, _ => by kernel_rfl
  | 57, _, _ => by kernel_rfl
  | 58, _, _ => by kernel_rfl
  | 59, _, _ => by kernel_rfl
  | 60, _, _ => by kernel_rfl
  | 61, _, _ => by kernel_rfl
  | 62, _, _ => by kernel_rfl
  | 63, _, _ => by kernel_rfl
  | n + 64, h, _ => by omega
attribute [local irreducible] W nows kk ringC
set_option maxRecDepth 100000 in
set_option maxHeartbeats 4000000 in
theorem behind_calls (s : NS) (b : Nat → Nat) (g off cap : Nat) (w : World) (hs : s.ok) (hL : Laid w) (hb : ∀ j, b j < 256) (hg : g < w.heap.size)
    (hc : ∀ j, j < 64 → w.cell? ⟨g, off + j, none⟩ = some (.int .u8 (b j : Int))) :
    Calls Tryd.prog 32 #[s.val, .slice (some ⟨g, off, none⟩) 64 cap] w fun e w' => e = .returned (blockN s b).val ∧ Below w.heap.size w w' := by
  obtain ⟨t1, fr1, hk⟩ := hL.k
  have HC := Lib.hid hc
  clear hc
  show Calls Tryd.prog 32 #[.agg #[.int .u32 (s.a : Int), .int .u32 (s.b : Int), .int .u32 (s.c : Int), .int .u32 (s.d : Int), .int .u32 (s.e : Int), .int .u32 (s.f : Int), .int .u32 (s.g : Int), .int .u32 (s.h : Int)], .slice (some ⟨g, off, none⟩) 64 cap] w fun e' w' => e' = .returned (blockN s b).val ∧ Below w.heap.size w w'
  go_enter Tryd.func32, Tryd.ntmps32
  have hk2 : 1 < w.heap.size := by
    rcases Nat.lt_or_ge 1 w.heap.size with h | h
    · exact h
    · rw [Array.getElem?_eq_none h] at hk
      cases hk
  have hk' := Lib.hid hk
  clear hk
  go_wp2_with (refine wpList_load_row rfl 50 (.global 1) rfl 1 (by simp [Act.eval, go_sem]) t1 kCells fr1 (.array 64 34) ?tab und50 rfl size50 ?_)
  case tab =>
    rw [Below.heap_alloc _ _ _ (by simp), Below.heap_alloc _ _ _ (by simp), Below.heap_alloc _ _ _ (by simp; omega), Below.heap_alloc _ _ _ hk2]
    exact hk'.out
  go_loopw [14] (fun v14 w' => ∃ i : Nat, v14 = .int .i64 i ∧ i ≤ 64 ∧ RI s b w w' i i) (fun v14 _ => 64 - (intOf v14).toNat)
  case atStart =>
    refine ⟨0, rfl, by omega, ?_, ?_, ?_, ?_, ?_⟩
    · exact ((((Below.refl _ _).alloc (Nat.le_refl _) _).alloc (by simp) _).alloc (by simp; omega) _).alloc (by simp; omega) _
    · rw [Below.heap_alloc _ _ _ (by simp; omega), Below.heap_alloc _ _ _ (by simp; omega), Below.heap_alloc _ _ _ (by simp)]
      exact alloc_new _ _ _ (by simp)
    · rw [Below.heap_alloc _ _ _ (by simp), Below.heap_alloc _ _ _ (by simp)]
      exact alloc_new _ _ _ (by simp)
    · rw [Below.heap_alloc _ _ _ (by simp), ring_zero]
      exact alloc_new _ _ _ (by simp)
    · rw [nows_zero]
      exact alloc_new _ _ _ (by simp)
  case round =>
    obtain ⟨i, rfl, hi, R⟩ := hrel
    by_cases hlt : i < 64
    · have hik : ∀ w, (Instr.index 50 (.agg kCells) (.int .i64 (i : Int))).run Tryd.prog w = .ok (.int .u32 (kk i : Int)) w := index_k i hlt
      by_cases h16 : i < 16
      · have c0 := HC.out (4 * i) (by omega)
        have c1 := HC.out (4 * i + 1) (by omega)
        have c2 := HC.out (4 * i + 2) (by omega)
        have c3 := HC.out (4 * i + 3) (by omega)
        rw [← R.below.cell (show g < w.heap.size from hg)] at c0 c1 c2 c3
        obtain ⟨v0, hv0⟩ := R.slot (i % 16) (by omega)
        have hf0 := R.free (i % 16)
        have e0 : IntKind.i64.wrap (4 * (i : Int)) = 4 * (i : Int) := by rw [IntKind.wrap_i64]; omega
        have e1 : IntKind.i64.wrap (4 * (i : Int) + 1) = 4 * (i : Int) + 1 := by rw [IntKind.wrap_i64]; omega
        have e2 : IntKind.i64.wrap (4 * (i : Int) + 2) = 4 * (i : Int) + 2 := by rw [IntKind.wrap_i64]; omega
        have e3 : IntKind.i64.wrap (4 * (i : Int) + 3) = 4 * (i : Int) + 3 := by rw [IntKind.wrap_i64]; omega
        have y0 : IntKind.u32.wrap ((b (4 * i) : Nat) : Int) = ((b (4 * i) : Nat) : Int) := by have := hb (4 * i); rw [IntKind.wrap_u32]; omega
        have y1 : IntKind.u32.wrap ((b (4 * i + 1) : Nat) : Int) = ((b (4 * i + 1) : Nat) : Int) := by have := hb (4 * i + 1); rw [IntKind.wrap_u32]; omega
        have y2 : IntKind.u32.wrap ((b (4 * i + 2) : Nat) : Int) = ((b (4 * i + 2) : Nat) : Int) := by have := hb (4 * i + 2); rw [IntKind.wrap_u32]; omega
        have y3 : IntKind.u32.wrap ((b (4 * i + 3) : Nat) : Int) = ((b (4 * i + 3) : Nat) : Int) := by have := hb (4 * i + 3); rw [IntKind.wrap_u32]; omega
        have z0 : IntKind.u32.wrap (((b (4 * i) : Nat) : Int) * 16777216) = ((b (4 * i) : Nat) : Int) * 16777216 := by have := hb (4 * i); rw [IntKind.wrap_u32]; omega
        have z1 : IntKind.u32.wrap (((b (4 * i + 1) : Nat) : Int) * 65536) = ((b (4 * i + 1) : Nat) : Int) * 65536 := by have := hb (4 * i + 1); rw [IntKind.wrap_u32]; omega
        have z2 : IntKind.u32.wrap (((b (4 * i + 2) : Nat) : Int) * 256) = ((b (4 * i + 2) : Nat) : Int) * 256 := by have := hb (4 * i + 2); rw [IntKind.wrap_u32]; omega
        have hw : Go.bits .or .u32 (Go.bits .or .u32 (Go.bits .or .u32 (((b (4 * i) : Nat) : Int) * 16777216) (((b (4 * i + 1) : Nat) : Int) * 65536)) (((b (4 * i + 2) : Nat) : Int) * 256)) ((b (4 * i + 3) : Nat) : Int) = (W b i : Int) := by
          rw [W_word b i h16]
          exact word_or _ _ _ _ (hb _) (hb _) (hb _) (hb _)
        have l4 : 0 ≤ (i : Int) % 16 := by omega
        have m4 : (i : Int) % 16 < 16 := by omega
        have n4 : ((i : Int) % 16).toNat = i % 16 := by omega
        have n0 : (4 * (i : Int)).toNat = 4 * i := by omega
        have n1 : (4 * (i : Int) + 1).toNat = 4 * i + 1 := by omega
        have n2 : (4 * (i : Int) + 2).toNat = 4 * i + 2 := by omega
        have n3 : (4 * (i : Int) + 3).toNat = 4 * i + 3 := by omega
        have l0 : 0 ≤ 4 * (i : Int) := by omega
        have l1 : 0 ≤ 4 * (i : Int) + 1 := by omega
        have l2 : 0 ≤ 4 * (i : Int) + 2 := by omega
        have l3 : 0 ≤ 4 * (i : Int) + 3 := by omega
        have m0 : 4 * (i : Int) < 64 := by omega
        have m1 : 4 * (i : Int) + 1 < 64 := by omega
        have m2 : 4 * (i : Int) + 2 < 64 := by omega
        have m3 : 4 * (i : Int) + 3 < 64 := by omega
        go_wp2
        refine QT.wp_region_draws_tail 35 (by kernel_rfl) (by kernel_rfl) ?_
        simp only [List.take_succ_cons, List.take_zero, List.drop_succ_cons, List.drop_zero]
        repeat (quiet_step (fail))
        refine wpQuiet_nil ?_
        intro _ hw'
        obtain ⟨nq, hw''⟩ := hw'
        subst hw''
        go_wp2
        have R2 := R.put nq
        generalize hW2 : (wr.drewN nq).setCell ⟨w.heap.size + 1 + 1, i % 16, none⟩ (.int .u32 (W b i : Int)) = w2 at R2 ⊢
        have hok := nows_ok b s hs i
        have hr := cell_regrown (R2.load i (by omega) (by omega))
        have hn0 := cell_regrown (show w2.cell? ⟨w.heap.size + 1 + 1 + 1, 0, none⟩ = some (.int .u32 ((nows b s i).a : Int)) from block_cell R2.now 0)
        have hn1 := cell_regrown (show w2.cell? ⟨w.heap.size + 1 + 1 + 1, 1, none⟩ = some (.int .u32 ((nows b s i).b : Int)) from block_cell R2.now 1)
        have hn2 := cell_regrown (show w2.cell? ⟨w.heap.size + 1 + 1 + 1, 2, none⟩ = some (.int .u32 ((nows b s i).c : Int)) from block_cell R2.now 2)
        have hn3 := cell_regrown (show w2.cell? ⟨w.heap.size + 1 + 1 + 1, 3, none⟩ = some (.int .u32 ((nows b s i).d : Int)) from block_cell R2.now 3)
        have hn4 := cell_regrown (show w2.cell? ⟨w.heap.size + 1 + 1 + 1, 4, none⟩ = some (.int .u32 ((nows b s i).e : Int)) from block_cell R2.now 4)
        have hn5 := cell_regrown (show w2.cell? ⟨w.heap.size + 1 + 1 + 1, 5, none⟩ = some (.int .u32 ((nows b s i).f : Int)) from block_cell R2.now 5)
        have hn6 := cell_regrown (show w2.cell? ⟨w.heap.size + 1 + 1 + 1, 6, none⟩ = some (.int .u32 ((nows b s i).g : Int)) from block_cell R2.now 6)
        have hn7 := cell_regrown (show w2.cell? ⟨w.heap.size + 1 + 1 + 1, 7, none⟩ = some (.int .u32 ((nows b s i).h : Int)) from block_cell R2.now 7)
        clear c0 c1 c2 c3 e0 e1 e2 e3 y0 y1 y2 y3 z0 z1 z2 hw n0 n1 n2 n3 l0 l1 l2 l3 m0 m1 m2 m3 hv0 hf0
        refine QT.wp_region_below_tail 6 (by kernel_rfl) (by kernel_rfl) ?_
        simp only [List.take_succ_cons, List.take_zero, List.drop_succ_cons, List.drop_zero]
        repeat (quiet_step ((go_at_call 36; exact Calls.regrown_of (round_lit (nows b s i) (kk i) (W b i) _ hok))))
        refine wpQuiet_nil ?_
        intro w3 hw'
        obtain ⟨pq, hw''⟩ := hw'
        have R3 : RI s b w w3 (i + 1) i := by
          rw [hw'']
          exact R2.behind (below_regrown w2 pq.d pq.os)
        clear hw'' R2 hr hn0 hn1 hn2 hn3 hn4 hn5 hn6 hn7
        have hf3 := fun k => block_frozen R3.now k
        have hr := R3.load i (by omega) (by omega)
        have hn0 : w3.cell? ⟨w.heap.size + 1 + 1 + 1, 0, none⟩ = some (.int .u32 ((nows b s i).a : Int)) := block_cell R3.now 0
        have hn1 : w3.cell? ⟨w.heap.size + 1 + 1 + 1, 1, none⟩ = some (.int .u32 ((nows b s i).b : Int)) := block_cell R3.now 1
        have hn2 : w3.cell? ⟨w.heap.size + 1 + 1 + 1, 2, none⟩ = some (.int .u32 ((nows b s i).c : Int)) := block_cell R3.now 2
        have hn3 : w3.cell? ⟨w.heap.size + 1 + 1 + 1, 3, none⟩ = some (.int .u32 ((nows b s i).d : Int)) := block_cell R3.now 3
        have hn4 : w3.cell? ⟨w.heap.size + 1 + 1 + 1, 4, none⟩ = some (.int .u32 ((nows b s i).e : Int)) := block_cell R3.now 4
        have hn5 : w3.cell? ⟨w.heap.size + 1 + 1 + 1, 5, none⟩ = some (.int .u32 ((nows b s i).f : Int)) := block_cell R3.now 5
        have hn6 : w3.cell? ⟨w.heap.size + 1 + 1 + 1, 6, none⟩ = some (.int .u32 ((nows b s i).g : Int)) := block_cell R3.now 6
        have hn7 : w3.cell? ⟨w.heap.size + 1 + 1 + 1, 7, none⟩ = some (.int .u32 ((nows b s i).h : Int)) := block_cell R3.now 7
        go_wp2
        refine ⟨⟨i + 1, by simp, by clear hn0; omega, R3.put8 (nows_succ b s i)⟩, ?_⟩
        simp [intOf]; omega
      · have hb15 := W_lt b (i - 15) hb
        have hb2 := W_lt b (i - 2) hb
        have x1 : wr.cell? ⟨w.heap.size + 1 + 1, (i + 1) % 16, none⟩ = some (.int .u32 (W b (i - 15) : Int)) := R.loadAt (i - 15) (i + 1) (by omega) (by omega) (by omega)
        have x14 : wr.cell? ⟨w.heap.size + 1 + 1, (i + 14) % 16, none⟩ = some (.int .u32 (W b (i - 2) : Int)) := R.loadAt (i - 2) (i + 14) (by omega) (by omega) (by omega)
        obtain ⟨n0, l0, m0⟩ := idx0 i
        obtain ⟨e1, t1', r1, n1, l1, m1⟩ := idx1 i hlt
        obtain ⟨e14, t14, r14, n14, l14, m14⟩ := idx14 i hlt
        go_wp2
        go_quiet (fail)
        go_wp2
        have R2 : RI s b w (wr.drewN nq) i i := R.behind (pw_below_drewN (Below.refl _ _) nq)
        clear e1 e14 t1' t14 r1 r14 n1 n14 l1 l14 m1 m14 x1 x14 hb15 hb2
        generalize hW2 : wr.drewN nq = w2 at R2 ⊢
        clear hW2
        have x9 : w2.cell? ⟨w.heap.size + 1 + 1, (i + 9) % 16, none⟩ = some (.int .u32 (W b (i - 7) : Int)) := R2.loadAt (i - 7) (i + 9) (by clear n0 l0 m0; omega) (by clear n0 l0 m0; omega) (by clear n0 l0 m0; omega)
        have x0 : w2.cell? ⟨w.heap.size + 1 + 1, i % 16, none⟩ = some (.int .u32 (W b (i - 16) : Int)) := R2.loadAt (i - 16) i (by clear n0 l0 m0; omega) (by clear n0 l0 m0; omega) (by clear n0 l0 m0; omega)
        obtain ⟨e9, t9, r9, n9, l9, m9⟩ := idx9 i hlt
        have hf0 := R2.free (i % 16)
        have HW := W_next b i (Nat.le_of_not_lt h16)
        have b15 := W_lt b (i - 15) hb
        have b2 := W_lt b (i - 2) hb
        have b7 := W_lt b (i - 7) hb
        have b16 := W_lt b (i - 16) hb
        revert HW x9 x0 b15 b2 b7 b16
        generalize W b (i - 15) = X15
        generalize W b (i - 2) = X2
        generalize W b (i - 7) = X7
        generalize W b (i - 16) = X16
        intro x9 x0 HW b15 b2 b7 b16
        have HV := Lib.hid HW
        clear HW
        refine QT.wp_region_draws_tail 28 (by kernel_rfl) (by kernel_rfl) ?_
        simp only [List.take_succ_cons, List.take_zero, List.drop_succ_cons, List.drop_zero]
        repeat (quiet_step ((go_at_call 35; exact down_nat _ _ _ _ (by assumption) (by decide) (by decide))))
        refine wpQuiet_nil ?_
        intro _ hw'
        obtain ⟨nq2, hw''⟩ := hw'
        subst hw''
        go_wp2
        rw [next_eq X16 X15 X7 X2 b15 b2, ← HV.out]
        have R4 := R2.put nq2
        generalize hW2 : (w2.drewN nq2).setCell ⟨w.heap.size + 1 + 1, i % 16, none⟩ (.int .u32 (W b i : Int)) = w4 at R4 ⊢
        have hok := nows_ok b s hs i
        have hr := cell_regrown (R4.load i (by omega) (by omega))
        have hn0 := cell_regrown (show w4.cell? ⟨w.heap.size + 1 + 1 + 1, 0, none⟩ = some (.int .u32 ((nows b s i).a : Int)) from block_cell R4.now 0)
        have hn1 := cell_regrown (show w4.cell? ⟨w.heap.size + 1 + 1 + 1, 1, none⟩ = some (.int .u32 ((nows b s i).b : Int)) from block_cell R4.now 1)
        have hn2 := cell_regrown (show w4.cell? ⟨w.heap.size + 1 + 1 + 1, 2, none⟩ = some (.int .u32 ((nows b s i).c : Int)) from block_cell R4.now 2)
        have hn3 := cell_regrown (show w4.cell? ⟨w.heap.size + 1 + 1 + 1, 3, none⟩ = some (.int .u32 ((nows b s i).d : Int)) from block_cell R4.now 3)
        have hn4 := cell_regrown (show w4.cell? ⟨w.heap.size + 1 + 1 + 1, 4, none⟩ = some (.int .u32 ((nows b s i).e : Int)) from block_cell R4.now 4)
        have hn5 := cell_regrown (show w4.cell? ⟨w.heap.size + 1 + 1 + 1, 5, none⟩ = some (.int .u32 ((nows b s i).f : Int)) from block_cell R4.now 5)
        have hn6 := cell_regrown (show w4.cell? ⟨w.heap.size + 1 + 1 + 1, 6, none⟩ = some (.int .u32 ((nows b s i).g : Int)) from block_cell R4.now 6)
        have hn7 := cell_regrown (show w4.cell? ⟨w.heap.size + 1 + 1 + 1, 7, none⟩ = some (.int .u32 ((nows b s i).h : Int)) from block_cell R4.now 7)
        clear x9 x0 HV b15 b2 b7 b16 e9 t9 r9 n9 l9 m9 hf0
        refine QT.wp_region_below_tail 6 (by kernel_rfl) (by kernel_rfl) ?_
        simp only [List.take_succ_cons, List.take_zero, List.drop_succ_cons, List.drop_zero]
        repeat (quiet_step ((go_at_call 36; exact Calls.regrown_of (round_lit (nows b s i) (kk i) (W b i) _ hok))))
        refine wpQuiet_nil ?_
        intro w3 hw'
        obtain ⟨pq, hw''⟩ := hw'
        have R3 : RI s b w w3 (i + 1) i := by
          rw [hw'']
          exact R4.behind (below_regrown w4 pq.d pq.os)
        clear hw'' R4 hr hn0 hn1 hn2 hn3 hn4 hn5 hn6 hn7
        have hf3 := fun k => block_frozen R3.now k
        have hr := R3.load i (by omega) (by omega)
        have hn0 : w3.cell? ⟨w.heap.size + 1 + 1 + 1, 0, none⟩ = some (.int .u32 ((nows b s i).a : Int)) := block_cell R3.now 0
        have hn1 : w3.cell? ⟨w.heap.size + 1 + 1 + 1, 1, none⟩ = some (.int .u32 ((nows b s i).b : Int)) := block_cell R3.now 1
        have hn2 : w3.cell? ⟨w.heap.size + 1 + 1 + 1, 2, none⟩ = some (.int .u32 ((nows b s i).c : Int)) := block_cell R3.now 2
        have hn3 : w3.cell? ⟨w.heap.size + 1 + 1 + 1, 3, none⟩ = some (.int .u32 ((nows b s i).d : Int)) := block_cell R3.now 3
        have hn4 : w3.cell? ⟨w.heap.size + 1 + 1 + 1, 4, none⟩ = some (.int .u32 ((nows b s i).e : Int)) := block_cell R3.now 4
        have hn5 : w3.cell? ⟨w.heap.size + 1 + 1 + 1, 5, none⟩ = some (.int .u32 ((nows b s i).f : Int)) := block_cell R3.now 5
        have hn6 : w3.cell? ⟨w.heap.size + 1 + 1 + 1, 6, none⟩ = some (.int .u32 ((nows b s i).g : Int)) := block_cell R3.now 6
        have hn7 : w3.cell? ⟨w.heap.size + 1 + 1 + 1, 7, none⟩ = some (.int .u32 ((nows b s i).h : Int)) := block_cell R3.now 7
        go_wp2
        refine ⟨⟨i + 1, by simp, by clear hn0; omega, R3.put8 (nows_succ b s i)⟩, ?_⟩
        simp [intOf]; omega
    · have e64 : i = 64 := by omega
      subst e64
      have hn0 : wr.cell? ⟨w.heap.size + 1 + 1 + 1, 0, none⟩ = some (.int .u32 ((nows b s 64).a : Int)) := block_cell R.now 0
      have hn1 : wr.cell? ⟨w.heap.size + 1 + 1 + 1, 1, none⟩ = some (.int .u32 ((nows b s 64).b : Int)) := block_cell R.now 1
      have hn2 : wr.cell? ⟨w.heap.size + 1 + 1 + 1, 2, none⟩ = some (.int .u32 ((nows b s 64).c : Int)) := block_cell R.now 2
      have hn3 : wr.cell? ⟨w.heap.size + 1 + 1 + 1, 3, none⟩ = some (.int .u32 ((nows b s 64).d : Int)) := block_cell R.now 3
      have hn4 : wr.cell? ⟨w.heap.size + 1 + 1 + 1, 4, none⟩ = some (.int .u32 ((nows b s 64).e : Int)) := block_cell R.now 4
      have hn5 : wr.cell? ⟨w.heap.size + 1 + 1 + 1, 5, none⟩ = some (.int .u32 ((nows b s 64).f : Int)) := block_cell R.now 5
      have hn6 : wr.cell? ⟨w.heap.size + 1 + 1 + 1, 6, none⟩ = some (.int .u32 ((nows b s 64).g : Int)) := block_cell R.now 6
      have hn7 : wr.cell? ⟨w.heap.size + 1 + 1 + 1, 7, none⟩ = some (.int .u32 ((nows b s 64).h : Int)) := block_cell R.now 7
      have hs0 : wr.cell? ⟨w.heap.size, 0, none⟩ = some (.int .u32 (s.a : Int)) := block_cell R.s0 0
      have hs1 : wr.cell? ⟨w.heap.size, 1, none⟩ = some (.int .u32 (s.b : Int)) := block_cell R.s0 1
      have hs2 : wr.cell? ⟨w.heap.size, 2, none⟩ = some (.int .u32 (s.c : Int)) := block_cell R.s0 2
      have hs3 : wr.cell? ⟨w.heap.size, 3, none⟩ = some (.int .u32 (s.d : Int)) := block_cell R.s0 3
      have hs4 : wr.cell? ⟨w.heap.size, 4, none⟩ = some (.int .u32 (s.e : Int)) := block_cell R.s0 4
      have hs5 : wr.cell? ⟨w.heap.size, 5, none⟩ = some (.int .u32 (s.f : Int)) := block_cell R.s0 5
      have hs6 : wr.cell? ⟨w.heap.size, 6, none⟩ = some (.int .u32 (s.g : Int)) := block_cell R.s0 6
      have hs7 : wr.cell? ⟨w.heap.size, 7, none⟩ = some (.int .u32 (s.h : Int)) := block_cell R.s0 7
      go_wp2_with (go_at_call 37; refine (and_lit s (nows b s 64) wr).mono ?_; rintro _ w2 ⟨rfl, hB⟩; have R2 := R.behind hB; have hf := fun k => block_frozen R2.out k; have ho0 : w2.cell? ⟨w.heap.size + 1, 0, none⟩ = some (.int .u32 0) := block_cell R2.out 0; have ho1 : w2.cell? ⟨w.heap.size + 1, 1, none⟩ = some (.int .u32 0) := block_cell R2.out 1; have ho2 : w2.cell? ⟨w.heap.size + 1, 2, none⟩ = some (.int .u32 0) := block_cell R2.out 2; have ho3 : w2.cell? ⟨w.heap.size + 1, 3, none⟩ = some (.int .u32 0) := block_cell R2.out 3; have ho4 : w2.cell? ⟨w.heap.size + 1, 4, none⟩ = some (.int .u32 0) := block_cell R2.out 4; have ho5 : w2.cell? ⟨w.heap.size + 1, 5, none⟩ = some (.int .u32 0) := block_cell R2.out 5; have ho6 : w2.cell? ⟨w.heap.size + 1, 6, none⟩ = some (.int .u32 0) := block_cell R2.out 6; have ho7 : w2.cell? ⟨w.heap.size + 1, 7, none⟩ = some (.int .u32 0) := block_cell R2.out 7)
      have hrow := block_put8 (c0 := .int .u32 0) R2.out (.int .u32 ((addN s (nows b s 64)).a : Int)) (.int .u32 ((addN s (nows b s 64)).b : Int)) (.int .u32 ((addN s (nows b s 64)).c : Int)) (.int .u32 ((addN s (nows b s 64)).d : Int))
        (.int .u32 ((addN s (nows b s 64)).e : Int)) (.int .u32 ((addN s (nows b s 64)).f : Int)) (.int .u32 ((addN s (nows b s 64)).g : Int)) (.int .u32 ((addN s (nows b s 64)).h : Int))
      refine bodyPost_ret (v := (blockN s b).val) ?_ rfl ⟨rfl, ?_⟩
      · exact results_cell_row Tryd.results32 _ _ _ _ _ _ _ rfl hrow Tryd.underlying36 rfl size36
      · exact ((((((((R2.below.setCell (by simp) _).setCell (by simp) _).setCell (by simp) _).setCell (by simp) _).setCell (by simp) _).setCell (by simp) _).setCell (by simp) _).setCell (by simp) _)

end Go.Proofs.YtegjphfkkafomaaDoor.Sha
