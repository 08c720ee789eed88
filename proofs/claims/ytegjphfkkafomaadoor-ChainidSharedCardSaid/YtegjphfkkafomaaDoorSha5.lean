/- take: the program's walk. -/
import Derived.Test.YtegjphfkkafomaaDoorSha4
namespace Go.Proofs.YtegjphfkkafomaaDoor.Sha
open Go.RowKit Go.Proofs Go.Proofs.YtegjphfkkafomaaDoor.Q Go.Proofs.YtegjphfkkafomaaDoorW.PrintWords Go.Proofs.YtegjphfkkafomaaDoorW.PrintLast Go.Proofs.YtegjphfkkafomaaDoorW.PrintMore

theorem info5 : (Tryd.prog.info? 5).map (fun i => (i.zero, i.size, i.bytes)) = some (some (.int .u8 0), 1, 1) := by kernel_rfl

/-- A hasher's cells. -/
def hCells (s : NS) (v : Value) (z : Int) : Array Value := #[.bool true, .int .u32 (s.a : Int), .int .u32 (s.b : Int), .int .u32 (s.c : Int), .int .u32 (s.d : Int), .int .u32 (s.e : Int), .int .u32 (s.f : Int), .int .u32 (s.g : Int), .int .u32 (s.h : Int), v, .int .i64 z]

theorem behind_lit (s : NS) (b : Nat → Nat) (g off cap : Nat) (w : World) (hs : s.ok) (hL : Laid w) (hb : ∀ j, b j < 256) (hg : g < w.heap.size)
    (hc : ∀ j, j < 64 → w.cell? ⟨g, off + j, none⟩ = some (.int .u8 (b j : Int))) :
    Calls Tryd.prog 32 #[.agg #[.int .u32 (s.a : Int), .int .u32 (s.b : Int), .int .u32 (s.c : Int), .int .u32 (s.d : Int), .int .u32 (s.e : Int), .int .u32 (s.f : Int), .int .u32 (s.g : Int), .int .u32 (s.h : Int)], .slice (some ⟨g, off, none⟩) 64 cap] w fun e w' => e = .returned (.agg #[.int .u32 ((blockN s b).a : Int), .int .u32 ((blockN s b).b : Int), .int .u32 ((blockN s b).c : Int), .int .u32 ((blockN s b).d : Int), .int .u32 ((blockN s b).e : Int), .int .u32 ((blockN s b).f : Int), .int .u32 ((blockN s b).g : Int), .int .u32 ((blockN s b).h : Int)]) ∧ Below w.heap.size w w' := behind_calls s b g off cap w hs hL hb hg hc

theorem own_form {w : World} {base : Nat} {e : TypeId} {size : Nat} {v : Value} {n : Nat} {xs : List Value} (h : w.ownsRow base e size v n xs) :
    ∃ o c, v = .slice o n c ∧ n ≤ c ∧ ((o = none ∧ n = 0 ∧ c = 0) ∨ ∃ g, o = some ⟨g, 0, none⟩ ∧ base ≤ g ∧ ∀ j, j < n * size → w.cell? ⟨g, j, none⟩ = xs[j]?) := by
  have H := h
  rcases h.2 with ⟨rfl, rfl⟩ | ⟨g, cap, cur, rfl, hg, hh, hn, hc, hs, ht⟩
  · exact ⟨none, 0, rfl, Nat.le_refl _, .inl ⟨rfl, rfl, rfl⟩⟩
  · exact ⟨some ⟨g, 0, none⟩, cap, rfl, hn, .inr ⟨g, rfl, hg, fun j hj => H.cellAt j hj⟩⟩

theorem lt_of_block {w : World} {g : Nat} {o : Obj} (h : w.heap[g]? = some o) : g < w.heap.size := by
  rcases Nat.lt_or_ge g w.heap.size with h1 | h1
  · exact h1
  · rw [Array.getElem?_eq_none h1] at h
    cases h

/-- What is left to be gone through, and what is new. -/
def totL (l bl : List Nat) : List Nat := l.drop (64 * (l.length / 64)) ++ bl
theorem totL_length (l bl : List Nat) : (totL l bl).length = l.length % 64 + bl.length := by
  unfold totL
  rw [List.length_append, List.length_drop]
  omega
theorem totL_drop (l bl : List Nat) : totL l bl = (l ++ bl).drop (64 * (l.length / 64)) := by
  unfold totL
  rw [List.drop_append_of_le_length (by omega)]
theorem totL_fB (l bl : List Nat) (i : Nat) : fB (totL l bl) i = fB (l ++ bl) (64 * (l.length / 64) + i) := by
  rw [totL_drop]
  unfold fB
  rw [List.getD_eq_getElem?_getD, List.getD_eq_getElem?_getD, List.getElem?_drop]

/-- In take's loop. -/
structure TI (w : World) (p : Nat) (v : Value) (l bl : List Nat) (z : Int) (o : Option Addr) (n c g j : Nat) (wr : World) : Prop where
  only : Only p v w wr
  cells : wr.heap[p]? = some (.cells (hCells (stN (fB (l ++ bl)) (l.length / 64 + j)) (.slice o n c) z) 39 (0, 0))
  len : n + 64 * j = l.length % 64 + bl.length
  cap : n ≤ c
  row : (o = none ∧ n = 0 ∧ c = 0 ∧ j = 0) ∨ (∃ off, o = some ⟨g, off, none⟩ ∧ (n = 0 ∨ off = 64 * j) ∧ g ≠ p ∧ 2 ≤ g ∧ ∀ i, i < (totL l bl).length → wr.cell? ⟨g, i, none⟩ = some (.int .u8 (fB (totL l bl) i : Int)))
  laid : Laid wr

theorem block_put9 {w : World} {g : Nat} {t : TypeId} {fr : Nat × Nat} {c0 c1 c2 c3 c4 c5 c6 c7 c8 c9 c10 : Value} (h : w.heap[g]? = some (.cells #[c0, c1, c2, c3, c4, c5, c6, c7, c8, c9, c10] t fr)) (v1 v2 v3 v4 v5 v6 v7 v8 v9 : Value) : (((((((((w.setCell ⟨g, 1, none⟩ v1).setCell ⟨g, 2, none⟩ v2).setCell ⟨g, 3, none⟩ v3).setCell ⟨g, 4, none⟩ v4).setCell ⟨g, 5, none⟩ v5).setCell ⟨g, 6, none⟩ v6).setCell ⟨g, 7, none⟩ v7).setCell ⟨g, 8, none⟩ v8).setCell ⟨g, 9, none⟩ v9).heap[g]? = some (.cells #[c0, v1, v2, v3, v4, v5, v6, v7, v8, v9, c10] t fr) := by
  have h1 := block_set h 1 v1
  have h2 := block_set h1 2 v2
  have h3 := block_set h2 3 v3
  have h4 := block_set h3 4 v4
  have h5 := block_set h4 5 v5
  have h6 := block_set h5 6 v6
  have h7 := block_set h6 7 v7
  have h8 := block_set h7 8 v8
  have h9 := block_set h8 9 v9
  simpa using h9
theorem TI.next {w wr w3 : World} {p : Nat} {v : Value} {l bl : List Nat} {z : Int} {o : Option Addr} {n c g j : Nat} (R : TI w p v l bl z o n c g j wr) (HB : Below wr.heap.size wr w3) (h64 : 64 ≤ n) {t : NS}
    (ht : t = blockN (stN (fB (l ++ bl)) (l.length / 64 + j)) (fun i => fB (totL l bl) (64 * j + i))) (hp : 2 ≤ p) (off' c2 : Nat) (ho : n - 64 = 0 ∨ off' = 64 * (j + 1)) (hc2 : n - 64 ≤ c2) :
    TI w p v l bl z (some ⟨g, off', none⟩) (n - 64) c2 g (j + 1) (((((((((w3.setCell ⟨p, 1, none⟩ (.int .u32 (t.a : Int))).setCell ⟨p, 2, none⟩ (.int .u32 (t.b : Int))).setCell ⟨p, 3, none⟩ (.int .u32 (t.c : Int))).setCell ⟨p, 4, none⟩ (.int .u32 (t.d : Int))).setCell ⟨p, 5, none⟩ (.int .u32 (t.e : Int))).setCell ⟨p, 6, none⟩ (.int .u32 (t.f : Int))).setCell ⟨p, 7, none⟩ (.int .u32 (t.g : Int))).setCell ⟨p, 8, none⟩ (.int .u32 (t.h : Int))).setCell ⟨p, 9, none⟩ (.slice (some ⟨g, off', none⟩) (n - 64) c2)) := by
  have hp3 := (HB.block p (lt_of_block R.cells)).trans R.cells
  have e : stN (fB (l ++ bl)) (l.length / 64 + (j + 1)) = t := by
    rw [ht]
    show blockN (stN (fB (l ++ bl)) (l.length / 64 + j)) (fun i => fB (l ++ bl) (64 * (l.length / 64 + j) + i)) = _
    congr 1
    funext i
    rw [totL_fB]
    congr 1
    omega
  rcases R.row with ⟨_, rfl, _⟩ | ⟨off, rfl, hoff, hgp, hg2, hrow⟩
  · omega
  refine ⟨?_, ?_, ?_, hc2, ?_, ?_⟩
  · exact ((((((((((R.only.then (Only.of_below HB)).setCell _ _).setCell _ _).setCell _ _).setCell _ _).setCell _ _).setCell _ _).setCell _ _).setCell _ _).setCell _ _)
  · rw [e]
    exact block_put9 (c0 := .bool true) hp3 _ _ _ _ _ _ _ _ _
  · have := R.len
    omega
  · refine .inr ⟨off', rfl, ho, hgp, hg2, fun i hi => ?_⟩
    have hc := hrow i hi
    have hg := block_lt_of_cell hc
    rw [← HB.cell (show (⟨g, i, none⟩ : Addr).block < wr.heap.size from hg)] at hc
    rw [← hc]
    exact World.cell?_of_block (by rw [Below.heap_setCell _ _ _ _ hgp, Below.heap_setCell _ _ _ _ hgp, Below.heap_setCell _ _ _ _ hgp, Below.heap_setCell _ _ _ _ hgp, Below.heap_setCell _ _ _ _ hgp, Below.heap_setCell _ _ _ _ hgp, Below.heap_setCell _ _ _ _ hgp, Below.heap_setCell _ _ _ _ hgp, Below.heap_setCell _ _ _ _ hgp])
  · refine R.laid.of ?_ ?_
    · rw [Below.heap_setCell _ _ _ _ (show (0 : Nat) ≠ p by omega), Below.heap_setCell _ _ _ _ (show (0 : Nat) ≠ p by omega), Below.heap_setCell _ _ _ _ (show (0 : Nat) ≠ p by omega), Below.heap_setCell _ _ _ _ (show (0 : Nat) ≠ p by omega), Below.heap_setCell _ _ _ _ (show (0 : Nat) ≠ p by omega), Below.heap_setCell _ _ _ _ (show (0 : Nat) ≠ p by omega), Below.heap_setCell _ _ _ _ (show (0 : Nat) ≠ p by omega), Below.heap_setCell _ _ _ _ (show (0 : Nat) ≠ p by omega), Below.heap_setCell _ _ _ _ (show (0 : Nat) ≠ p by omega), HB.block 0 (by have := R.laid.lt; omega)]
    · rw [Below.heap_setCell _ _ _ _ (show (1 : Nat) ≠ p by omega), Below.heap_setCell _ _ _ _ (show (1 : Nat) ≠ p by omega), Below.heap_setCell _ _ _ _ (show (1 : Nat) ≠ p by omega), Below.heap_setCell _ _ _ _ (show (1 : Nat) ≠ p by omega), Below.heap_setCell _ _ _ _ (show (1 : Nat) ≠ p by omega), Below.heap_setCell _ _ _ _ (show (1 : Nat) ≠ p by omega), Below.heap_setCell _ _ _ _ (show (1 : Nat) ≠ p by omega), Below.heap_setCell _ _ _ _ (show (1 : Nat) ≠ p by omega), Below.heap_setCell _ _ _ _ (show (1 : Nat) ≠ p by omega), HB.block 1 R.laid.lt]

theorem ownsRow_mono {w : World} {base base' : Nat} {e : TypeId} {size : Nat} {v : Value} {n : Nat} {xs : List Value} (h : w.ownsRow base e size v n xs) (hb : base' ≤ base) : w.ownsRow base' e size v n xs := by
  refine ⟨h.1, ?_⟩
  rcases h.2 with h2 | ⟨g, cap, cur, rfl, hg, r⟩
  · exact .inl h2
  · exact .inr ⟨g, cap, cur, rfl, Nat.le_trans hb hg, r⟩

/-- What is left of all. -/
def restL (l bl : List Nat) (j : Nat) : List Nat := (l ++ bl).drop (64 * (l.length / 64 + j))
theorem restL_length {w wr : World} {p : Nat} {v : Value} {l bl : List Nat} {z : Int} {o : Option Addr} {n c g j : Nat} (R : TI w p v l bl z o n c g j wr) : (restL l bl j).length = n := by
  have := R.len
  unfold restL
  rw [List.length_drop, List.length_append]
  omega
theorem restL_cells {w wr : World} {p : Nat} {v : Value} {l bl : List Nat} {z : Int} {n c g j off : Nat} (R : TI w p v l bl z (some ⟨g, off, none⟩) n c g j wr) : ∀ i u, (cells8 (restL l bl j))[i]? = some u → wr.cell? ((⟨g, off, none⟩ : Addr).add i) = some u := by
  intro i u hu
  have hi : i < n := by
    have := (List.getElem?_eq_some_iff.1 hu).1
    rwa [cells8_length, restL_length R] at this
  rcases R.row with ⟨h, _⟩ | ⟨off', h, hoff, hgp, hg2, hrow⟩
  · cases h
  injection h with h
  injection h with _ h
  subst h
  rcases hoff with rfl | rfl
  · omega
  rw [cells8_get _ _ (by rw [restL_length R]; exact hi)] at hu
  have hl := totL_length l bl
  have hlen := R.len
  have := hrow (64 * j + i) (by omega)
  rw [show (⟨g, 64 * j, none⟩ : Addr).add i = ⟨g, 64 * j + i, none⟩ from by simp [Addr.add]]
  rw [this, ← hu, totL_fB]
  unfold restL fB
  rw [List.getD_eq_getElem?_getD, List.getD_eq_getElem?_getD, List.getElem?_drop]
  congr 5
  omega
theorem TI.done {w wr w2 : World} {p : Nat} {v : Value} {l bl : List Nat} {z : Int} {o : Option Addr} {n c g j : Nat} (R : TI w p v l bl z o n c g j wr) (H : HAt w p v l z) (hb : ∀ x ∈ bl, x < 256) (h : n < 64) {o2 : Option Addr} {c2 : Nat}
    (hown : w2.ownsRow wr.heap.size 5 1 (.slice o2 n c2) n (cells8 (restL l bl j))) (hg : wr.grownBy w2 none) :
    HAt (w2.setCell ⟨p, 9, none⟩ (.slice o2 n c2)) p (.slice o2 n c2) (l ++ bl) z ∧ (∀ k, (Value.slice o2 n c2).ownBlock = some k → w.heap.size ≤ k) ∧ Only p v w (w2.setCell ⟨p, 9, none⟩ (.slice o2 n c2)) := by
  have hlen := R.len
  have e1 : (l ++ bl).length / 64 = l.length / 64 + j := by rw [List.length_append]; omega
  have e2 : (l ++ bl).length % 64 = n := by rw [List.length_append]; omega
  have hpw := lt_of_block R.cells
  have hp2 := (hg.block p hpw (by simp)).trans R.cells
  have hfresh : ∀ k, (Value.slice o2 n c2).ownBlock = some k → wr.heap.size ≤ k := fun k hk => (hown.lt k hk).1
  have hne : (Value.slice o2 n c2).ownBlock ≠ some p := fun e => by
    have := hfresh p e
    omega
  refine ⟨⟨?_, ?_, hne, H.two, ?_⟩, fun k hk => Nat.le_trans R.only.size (hfresh k hk), ?_⟩
  · rw [e1]
    have := block_set hp2 9 (.slice o2 n c2)
    simpa [hCells] using this
  · rw [e2, e1]
    refine ownsRow_block (ownsRow_mono hown (by have := R.laid.lt; omega)) (fun k hk => Below.heap_setCell _ _ _ _ (fun e => hne (by rw [hk]; exact congrArg some e)))
  · intro x hx
    rcases List.mem_append.1 hx with hx | hx
    · exact H.small x hx
    · exact hb x hx
  · exact (R.only.then ⟨hg.os, hg.tape, hg.output, hg.size, fun k hk _ _ => hg.block k hk (by simp)⟩).setCell _ _
theorem TI.start {w w1 : World} {p : Nat} {v : Value} {l bl : List Nat} {z : Int} (hL : Laid w) (H : HAt w p v l z) {o1 : Option Addr} {c1 : Nat} (hgr : w.grownBy w1 v.ownBlock) (hc1 : l.length % 64 + bl.length ≤ c1)
    (hat : (Value.slice o1 (l.length % 64 + bl.length) c1).ownBlock = v.ownBlock ∨ (Value.slice o1 (l.length % 64 + bl.length) c1).ownBlock = some w.heap.size)
    (hform : (o1 = none ∧ l.length % 64 + bl.length = 0 ∧ c1 = 0) ∨ ∃ g, o1 = some ⟨g, 0, none⟩ ∧ 2 ≤ g ∧ ∀ j, j < (l.length % 64 + bl.length) * 1 → w1.cell? ⟨g, j, none⟩ = (cells8 (l.drop (64 * (l.length / 64))) ++ cells8 bl)[j]?) :
    ∃ g, TI w p v l bl z o1 (l.length % 64 + bl.length) c1 g 0 (w1.setCell ⟨p, 9, none⟩ (.slice o1 (l.length % 64 + bl.length) c1)) := by
  have hp1 := (hgr.block p H.lt (fun e => H.ne e.symm)).trans H.cells
  have two := H.two
  have hst : stN (fB (l ++ bl)) (l.length / 64 + 0) = stN (fB l) (l.length / 64) := stN_append l bl _ (by omega)
  have hcells : (w1.setCell ⟨p, 9, none⟩ (.slice o1 (l.length % 64 + bl.length) c1)).heap[p]? = some (.cells (hCells (stN (fB (l ++ bl)) (l.length / 64 + 0)) (.slice o1 (l.length % 64 + bl.length) c1) z) 39 (0, 0)) := by
    rw [hst]
    have := block_set hp1 9 (.slice o1 (l.length % 64 + bl.length) c1)
    simpa [hCells] using this
  have honly : Only p v w (w1.setCell ⟨p, 9, none⟩ (.slice o1 (l.length % 64 + bl.length) c1)) := (Only.of_grown hgr).setCell _ _
  have hlaid : Laid (w1.setCell ⟨p, 9, none⟩ (.slice o1 (l.length % 64 + bl.length) c1)) := by
    refine hL.of ?_ ?_
    · rw [Below.heap_setCell _ _ _ _ (show (0 : Nat) ≠ p by omega)]
      exact hgr.block 0 (by have := hL.lt; omega) (fun e => by have := (H.own.lt 0 e.symm).1; omega)
    · rw [Below.heap_setCell _ _ _ _ (show (1 : Nat) ≠ p by omega)]
      exact hgr.block 1 hL.lt (fun e => by have := (H.own.lt 1 e.symm).1; omega)
  rcases hform with ⟨rfl, h0, rfl⟩ | ⟨g, rfl, hg2, hrow⟩
  · exact ⟨0, honly, hcells, by omega, hc1, .inl ⟨rfl, h0, rfl, rfl⟩, hlaid⟩
  · have hgp : g ≠ p := by
      rintro rfl
      rcases hat with hat | hat
      · exact H.ne hat.symm
      · have hlt := H.lt
        have : g = w.heap.size := by simpa [Value.ownBlock] using hat
        omega
    refine ⟨g, honly, hcells, by omega, hc1, .inr ⟨0, rfl, .inr rfl, hgp, hg2, fun i hi => ?_⟩, hlaid⟩
    have hl := totL_length l bl
    rw [World.cell?_of_block (w := w1) (Below.heap_setCell _ _ _ _ hgp), hrow i (by omega), ← cells8_append]
    exact cells8_get _ i hi

set_option maxRecDepth 100000 in
set_option maxHeartbeats 4000000 in
theorem take_calls (w : World) (p : Nat) (v : Value) (l bl : List Nat) (z : Int) (ad : Addr) (c : Nat) (hL : Laid w) (H : HAt w p v l z) (hm : bl.length ≤ 1000000000)
    (hb : ∀ x ∈ bl, x < 256) (hc : ∀ j u, (cells8 bl)[j]? = some u → w.cell? (ad.add j) = some u) :
    Calls Tryd.prog 28 #[.pointer (some ⟨p, 0, none⟩), .slice (some ad) bl.length c] w fun e w' => e = .returned (.tuple #[]) ∧ ∃ v', HAt w' p v' (l ++ bl) z ∧ (∀ g, v'.ownBlock = some g → w.heap.size ≤ g) ∧ Only p v w w' := by
  obtain ⟨i0, hi, hz0, hz1, hz2⟩ := info_parts info5
  have h9 : w.cell? ⟨p, 9, none⟩ = some v := block_cell H.cells 9
  have HC := Lib.hid hc
  have HI := Lib.hid (And.intro hi (And.intro hz0 (And.intro hz1 hz2)))
  have HM := Lib.hid hm
  clear hc hi hz0 hz1 hz2 hm
  go_enter Tryd.func28, Tryd.ntmps28
  go_wp2_with ((with_reducible refine gate_builtin (b := .append) (xs := #[.tmp 8, .tmp 9]) rfl ?_); at_builtin; refine wpList_append_own_at w rfl (.tmp 8) (.tmp 9) 37 rfl 2 5 i0 (.int .u8 0) 1 1 Tryd.underlying37 HI.out.1 HI.out.2.1 HI.out.2.2.1 HI.out.2.2.2 rfl (by decide) v (l.length % 64) (cells8 (l.drop (64 * (l.length / 64)))) rfl H.own ad bl.length c (cells8 bl) rfl (by rw [cells8_length, Nat.mul_one]) HC.out (cells8_one bl) (by have := HM.out; unfold maxLen; omega) (by have := HM.out; omega) (by have := H.lt; have := H.two; omega) ?_; intro v1 w1 hown hgr hnil hat; have hp1 := (hgr.block p H.lt (fun e => H.ne e.symm)).trans H.cells; obtain ⟨o1, c1, rfl, hc1, hform⟩ := own_form hown; have k9 := block_cell hp1 9; have kf := fun j => block_frozen hp1 j)
  have hF := Lib.hid hform
  have HA := Lib.hid hat
  clear hform hnil hat
  go_loopg [] (((l.length % 64 + bl.length) / 64)) (fun k wr => ∃ (o : Option Addr) (n c' g j : Nat), k = n / 64 ∧ TI w p v l bl z o n c' g j wr)
  case atStart =>
    obtain ⟨g, R⟩ := TI.start hL H hgr hc1 HA.out hF.out
    exact ⟨_, _, _, g, 0, rfl, R⟩
  case round =>
    obtain ⟨o, n, c', g, j, rfl, R⟩ := hrel
    have x9 : wr.cell? ⟨p, 9, none⟩ = some (.slice o n c') := block_cell R.cells 9
    by_cases h64 : 64 ≤ n
    · have hn64 : decide ((64 : Int) ≤ (n : Int)) = true := decide_eq_true (by omega)
      rcases R.row with ⟨_, rfl, _⟩ | ⟨off, rfl, hoff, hgp, hg2, hrow⟩
      · omega
      rcases hoff with rfl | rfl
      · omega
      · have hlt : ∀ i, i < 64 → 64 * j + i < (totL l bl).length := fun i hi => by rw [totL_length, ← R.len]; omega
        have hgl : g < wr.heap.size := block_lt_of_cell (hrow (64 * j) (hlt 0 (by decide)))
        have hc64 : (64 : Int) ≤ (c' : Int) := by have := R.cap; omega
        have hok : (stN (fB (l ++ bl)) (l.length / 64 + j)).ok := stN_ok _ _
        have hby : ∀ i, fB (totL l bl) i < 256 := fB_lt _ (fun x hx => by
          rcases List.mem_append.1 hx with h | h
          · exact H.small x (List.mem_of_mem_drop h)
          · exact hb x h)
        have hlaid : ∀ d os, Laid (Go.Sort.grow (redrawn wr d) os) := fun d os => R.laid.of_below (below_regrown wr d os) (by have := R.laid.lt; omega)
        have hgl' : ∀ d os, g < (Go.Sort.grow (redrawn wr d) os).heap.size := fun d os => by have := (below_regrown wr d os).size; omega
        have hrow' : ∀ d os, ∀ i, i < 64 → (Go.Sort.grow (redrawn wr d) os).cell? ⟨g, 64 * j + i, none⟩ = some (.int .u8 ((fB (totL l bl) (64 * j + i) : Nat) : Int)) := fun d os i hi => cell_regrown (hrow _ (hlt i hi)) d os
        have HX := Lib.hid (And.intro hlaid (And.intro hgl' (And.intro hrow' (And.intro hok hby))))
        have HRow := Lib.hid hrow
        clear hlaid hgl' hrow' hrow hlt hby
        have y1 := cell_regrown (show wr.cell? ⟨p, 1, none⟩ = some (.int .u32 ((stN (fB (l ++ bl)) (l.length / 64 + j)).a : Int)) from block_cell R.cells 1)
        have y2 := cell_regrown (show wr.cell? ⟨p, 2, none⟩ = some (.int .u32 ((stN (fB (l ++ bl)) (l.length / 64 + j)).b : Int)) from block_cell R.cells 2)
        have y3 := cell_regrown (show wr.cell? ⟨p, 3, none⟩ = some (.int .u32 ((stN (fB (l ++ bl)) (l.length / 64 + j)).c : Int)) from block_cell R.cells 3)
        have y4 := cell_regrown (show wr.cell? ⟨p, 4, none⟩ = some (.int .u32 ((stN (fB (l ++ bl)) (l.length / 64 + j)).d : Int)) from block_cell R.cells 4)
        have y5 := cell_regrown (show wr.cell? ⟨p, 5, none⟩ = some (.int .u32 ((stN (fB (l ++ bl)) (l.length / 64 + j)).e : Int)) from block_cell R.cells 5)
        have y6 := cell_regrown (show wr.cell? ⟨p, 6, none⟩ = some (.int .u32 ((stN (fB (l ++ bl)) (l.length / 64 + j)).f : Int)) from block_cell R.cells 6)
        have y7 := cell_regrown (show wr.cell? ⟨p, 7, none⟩ = some (.int .u32 ((stN (fB (l ++ bl)) (l.length / 64 + j)).g : Int)) from block_cell R.cells 7)
        have y8 := cell_regrown (show wr.cell? ⟨p, 8, none⟩ = some (.int .u32 ((stN (fB (l ++ bl)) (l.length / 64 + j)).h : Int)) from block_cell R.cells 8)
        have y9 := cell_regrown x9
        go_wp2
        refine QT.wp_region_below_tail 13 (by kernel_rfl) (by kernel_rfl) ?_
        simp only [List.take_succ_cons, List.take_zero, List.drop_succ_cons, List.drop_zero]
        repeat (quiet_step ((go_at_call 32; exact Calls.regrown_of (behind_lit (stN (fB (l ++ bl)) (l.length / 64 + j)) (fun i => fB (totL l bl) (64 * j + i)) g (64 * j) _ _ HX.out.2.2.2.1 (HX.out.1 _ _) (fun i => HX.out.2.2.2.2 _) (HX.out.2.1 _ _) (HX.out.2.2.1 _ _)))))
        refine wpQuiet_nil ?_
        intro w3 hw'
        obtain ⟨pq, hw''⟩ := hw'
        have HB : Below wr.heap.size wr w3 := by
          rw [hw'']
          exact below_regrown wr pq.d pq.os
        clear hw'' y1 y2 y3 y4 y5 y6 y7 y8 y9 HX
        have hp3 := (HB.block p (lt_of_block R.cells)).trans R.cells
        have hf3 := fun k => block_frozen hp3 k
        have y1 : w3.cell? ⟨p, 1, none⟩ = some (.int .u32 ((stN (fB (l ++ bl)) (l.length / 64 + j)).a : Int)) := block_cell hp3 1
        have y2 : w3.cell? ⟨p, 2, none⟩ = some (.int .u32 ((stN (fB (l ++ bl)) (l.length / 64 + j)).b : Int)) := block_cell hp3 2
        have y3 : w3.cell? ⟨p, 3, none⟩ = some (.int .u32 ((stN (fB (l ++ bl)) (l.length / 64 + j)).c : Int)) := block_cell hp3 3
        have y4 : w3.cell? ⟨p, 4, none⟩ = some (.int .u32 ((stN (fB (l ++ bl)) (l.length / 64 + j)).d : Int)) := block_cell hp3 4
        have y5 : w3.cell? ⟨p, 5, none⟩ = some (.int .u32 ((stN (fB (l ++ bl)) (l.length / 64 + j)).e : Int)) := block_cell hp3 5
        have y6 : w3.cell? ⟨p, 6, none⟩ = some (.int .u32 ((stN (fB (l ++ bl)) (l.length / 64 + j)).f : Int)) := block_cell hp3 6
        have y7 : w3.cell? ⟨p, 7, none⟩ = some (.int .u32 ((stN (fB (l ++ bl)) (l.length / 64 + j)).g : Int)) := block_cell hp3 7
        have y8 : w3.cell? ⟨p, 8, none⟩ = some (.int .u32 ((stN (fB (l ++ bl)) (l.length / 64 + j)).h : Int)) := block_cell hp3 8
        have y9 : w3.cell? ⟨p, 9, none⟩ = some (.slice (some ⟨g, 64 * j, none⟩) n c') := block_cell hp3 9
        go_wp2
        · go_roundg ((n - 64) / 64)
          case measure => clear y1 y2 y3 y4 y5 y6 y7 y8 y9; omega
          case rel => exact ⟨_, _, _, g, j + 1, rfl, R.next HB h64 rfl H.two _ _ (.inl (by have := R.cap; clear y1 y2 y3 y4 y5 y6 y7 y8 y9; omega)) (by have := R.cap; clear y1 y2 y3 y4 y5 y6 y7 y8 y9; omega)⟩
        · go_roundg ((n - 64) / 64)
          case measure => clear y1 y2 y3 y4 y5 y6 y7 y8 y9; omega
          case rel => exact ⟨_, _, _, g, j + 1, rfl, R.next HB h64 rfl H.two _ _ (.inr (by clear y1 y2 y3 y4 y5 y6 y7 y8 y9; omega)) (by have := R.cap; clear y1 y2 y3 y4 y5 y6 y7 y8 y9; omega)⟩
    · have hn64 : decide ((64 : Int) ≤ (n : Int)) = false := decide_eq_false (by omega)
      have hlt : n < 64 := by omega
      have hfz := fun k => block_frozen R.cells k
      rcases R.row with ⟨rfl, rfl, rfl, _⟩ | ⟨off, rfl, _⟩
      · have hnil : restL l bl j = [] := List.eq_nil_of_length_eq_zero (restL_length R)
        have HN := Lib.hid hnil
        clear hnil
        go_wp2
        go_end0
        exact ⟨rfl, .slice none 0 0, R.done H hb hlt (by rw [HN.out]; exact World.ownsRow_nil _ _ _ _) ⟨rfl, rfl, rfl, Nat.le_refl _, fun _ _ _ => rfl⟩⟩
      · have HX := Lib.hid (restL_cells R)
        have HY := Lib.hid (restL_length R)
        go_wp2_with ((with_reducible refine gate_builtin (b := .append) (xs := #[.const (.slice none 0 0), .tmp 44]) rfl ?_); at_builtin; refine wpList_append_own_at wr rfl (.const (.slice none 0 0)) (.tmp 44) 37 rfl wr.heap.size 5 i0 (.int .u8 0) 1 1 Tryd.underlying37 HI.out.1 HI.out.2.1 HI.out.2.2.1 HI.out.2.2.2 rfl (by decide) (.slice none 0 0) 0 [] rfl (World.ownsRow_nil _ _ _ _) ⟨g, off, none⟩ n c' (cells8 (restL l bl j)) rfl (by rw [cells8_length, HY.out, Nat.mul_one]) HX.out (cells8_one _) (by unfold maxLen; omega) (by omega) (Nat.le_refl _) ?_; intro v2 w2 hown2 hgr2 hnil2 hat2; rw [Nat.zero_add, List.nil_append] at hown2; have hp2 := (hgr2.block p (lt_of_block R.cells) (by simp [Value.ownBlock])).trans R.cells; obtain ⟨o2, c2, rfl, hc2, hform2⟩ := own_form hown2; clear hform2 hnil2 hat2; have k92 := block_cell hp2 9; have kf2 := fun j => block_frozen hp2 j)
        go_end0
        exact ⟨rfl, _, R.done H hb hlt hown2 hgr2⟩

end Go.Proofs.YtegjphfkkafomaaDoor.Sha
