/- The reference's hash: its walk. -/
import Derived.Test.YtegjphfkkafomaaDoorSha11
import Derived.Test.YtegjphfkkafomaaDoorSha12
namespace Go.Proofs.YtegjphfkkafomaaDoor.Sha
open Go.RowKit Go.Proofs Go.Proofs.YtegjphfkkafomaaDoor.Q Go.Proofs.YtegjphfkkafomaaDoorW.PrintWords Go.Proofs.YtegjphfkkafomaaDoorW.PrintLast Go.Proofs.YtegjphfkkafomaaDoorW.PrintMore

theorem wpQuiet_load_row {P : Program} {ops : Array Oper} {C : World → Prop} {Q : Act → Prop} {a : Act} {o : Oper} {rest : List Oper} (hgd : o.guard = none) (ty : TypeId) (x : Operand) (ho : o.op = .load ty x)
    (g : Nat) (hx : a.eval x = .pointer (some ⟨g, 0, none⟩)) (t : TypeId) (cs : Array Value) (fr : Nat × Nat) (d : TypeDesc) (hC : ∀ w, C w → w.heap[g]? = some (.cells cs t fr))
    (hu : P.underlying ty = some d) (hd : (match d with | .struct _ | .array _ _ => true | _ => false) = true) (hi : (P.info? ty).map (·.size) = some cs.size)
    (h : wpQuiet P ops C Q rest (a.put o.dst (.agg cs))) : wpQuiet P ops C Q (o :: rest) a := by
  unfold wpQuiet
  rw [if_pos (by unfold Region.wanted; rw [hgd])]
  refine ⟨.agg cs, fun w hw => ?_, h⟩
  unfold Oper.quietAt execOp
  simp only [ho, hx, Instr.loadAt, Instr.sureAddr, Sem.run_bind, Sem.run_pure, Result.andThen_ok, run_loadVar_row w g t ty cs fr d (hC w hw) hu hd hi]
  exact ⟨rfl, rfl⟩

theorem zero64_size : (Tryd.prog.info? 50).map (·.size) = some 64 := by kernel_rfl
def zero64 : Array Value := Array.replicate 64 (.int .u32 0)

/-- In the reference's blocks. -/
structure EI (w : World) (l : List Nat) (m : Nat) (wr : World) : Prop where
  below : Below w.heap.size w wr
  d : wr.heap[w.heap.size]? = some (.cells zero32 24 (0, 0))
  k : wr.heap[w.heap.size + 1]? = some (.cells kCells 50 (0, 0))
  v : wr.heap[w.heap.size + 1 + 1]? = some (.cells (stN (fB l) m).cells 51 (0, 0))
theorem there_old {w : World} {g : Nat} {cs ds : Array Value} {t : TypeId} (h : w.heap[g]? = some (.cells cs t (0, 0))) (hs : cs.size = ds.size) : w.there g 0 ds.size := by
  rw [← hs]
  exact row_there h
theorem setCells_size {g : Nat} : ∀ (vs : List Value) (o : Nat) (w : World), (w.setCells g o vs).heap.size = w.heap.size
  | [], _, _ => rfl
  | v :: r, o, w => by
    show ((w.setCell ⟨g, o, none⟩ v).setCells g (o + 1) r).heap.size = _
    rw [setCells_size r]
    simp [World.setCell]
theorem EI.start {w w2 : World} {cs0 cs1 cs2 : Array Value} (l : List Nat) (h0 : cs0 = zero32) (h1 : cs1.size = kCells.toList.length) (h2 : cs2 = beginN.cells)
    (hB : Below ((((w.alloc (.cells cs0 24 (0, 0))).alloc (.cells cs1 50 (0, 0))).setCells (w.heap.size + 1) 0 kCells.toList).alloc (.cells cs2 51 (0, 0))).heap.size
      ((((w.alloc (.cells cs0 24 (0, 0))).alloc (.cells cs1 50 (0, 0))).setCells (w.heap.size + 1) 0 kCells.toList).alloc (.cells cs2 51 (0, 0))) w2) : EI w l 0 w2 := by
  subst h0 h2
  have hs1 : ((w.alloc (.cells zero32 24 (0, 0))).alloc (.cells cs1 50 (0, 0))).heap.size = w.heap.size + 1 + 1 := by simp
  have hk : (((w.alloc (.cells zero32 24 (0, 0))).alloc (.cells cs1 50 (0, 0))).setCells (w.heap.size + 1) 0 kCells.toList).heap[w.heap.size + 1]? = some (.cells kCells.toList.toArray 50 (0, 0)) :=
    setCells_whole _ _ _ (alloc_new _ _ _ (by simp)) h1
  have hb1 : Below (w.heap.size + 1) (w.alloc (.cells zero32 24 (0, 0))) (((w.alloc (.cells zero32 24 (0, 0))).alloc (.cells cs1 50 (0, 0))).setCells (w.heap.size + 1) 0 kCells.toList) :=
    setCells_below _ _ _ _ _ (Nat.le_refl _) ((Below.refl _ _).alloc (by simp) _)
  have hb0 : Below w.heap.size w (((w.alloc (.cells zero32 24 (0, 0))).alloc (.cells cs1 50 (0, 0))).setCells (w.heap.size + 1) 0 kCells.toList) :=
    setCells_below _ _ _ _ _ (Nat.le_succ _) (((Below.refl _ _).alloc (Nat.le_refl _) _).alloc (by simp) _)
  have hs2 : (((w.alloc (.cells zero32 24 (0, 0))).alloc (.cells cs1 50 (0, 0))).setCells (w.heap.size + 1) 0 kCells.toList).heap.size = w.heap.size + 1 + 1 := by
    rw [setCells_size]
    exact hs1
  have hd := (hb1.block w.heap.size (Nat.lt_succ_self _)).trans (alloc_new w _ _ rfl)
  generalize ((w.alloc (.cells zero32 24 (0, 0))).alloc (.cells cs1 50 (0, 0))).setCells (w.heap.size + 1) 0 kCells.toList = wk at hB hk hb1 hs2 hb0 hd
  have hs3 : (wk.alloc (.cells beginN.cells 51 (0, 0))).heap.size = w.heap.size + 1 + 1 + 1 := by simp [hs2]
  rw [hs3] at hB
  refine ⟨?_, ?_, ?_, ?_⟩
  · exact (hb0.alloc (by omega) _).trans (hB.mono (by omega))
  · rw [hB.block _ (by omega), Below.heap_alloc _ _ _ (by omega)]
    exact hd
  · rw [hB.block _ (by omega), Below.heap_alloc _ _ _ (by omega)]
    exact hk
  · rw [hB.block _ (by omega)]
    exact alloc_new _ _ _ hs2.symm
theorem EI.keep {w w2 w3 : World} {l : List Nat} {m : Nat} (h : EI w l m w2) (hB : Below w2.heap.size w2 w3) : EI w l m w3 := by
  have lt : w.heap.size + 1 + 1 < w2.heap.size := lt_of_block h.v
  exact ⟨h.below.trans (hB.mono (by omega)), by rw [hB.block _ (by omega)]; exact h.d, by rw [hB.block _ (by omega)]; exact h.k, by rw [hB.block _ (by omega)]; exact h.v⟩
theorem EI.next {w w2 : World} {l : List Nat} {m : Nat} (h : EI w l m w2) {vs : List Value} (hv : vs.toArray = (stN (fB l) (m + 1)).cells) : EI w l (m + 1) (w2.setCells (w.heap.size + 1 + 1) 0 vs) := by
  have hl : vs.length = 8 := by
    exact congrArg Array.size hv
  have hb : Below (w.heap.size + 1 + 1) w2 (w2.setCells (w.heap.size + 1 + 1) 0 vs) := setCells_below _ _ _ _ _ (Nat.le_refl _) (Below.refl _ _)
  refine ⟨h.below.trans (hb.mono (by omega)), ?_, ?_, ?_⟩
  · rw [hb.block _ (by omega)]; exact h.d
  · rw [hb.block _ (by omega)]; exact h.k
  · rw [← hv]
    exact setCells_whole _ _ _ h.v (by rw [hl]; rfl)
theorem block_next (T : ByteArray) (m : Nat) (hm : 64 * m + 64 ≤ T.size) : blockN (stN (fB (byN T)) m) (fB (byN (T.extract (64 * m) (64 * m + 64)))) = stN (fB (byN T)) (m + 1) := by
  show _ = blockN (stN (fB (byN T)) m) (fun i => fB (byN T) (64 * m + i))
  refine blockN_congr (fun j hj => ?_) _
  unfold fB byN
  rw [List.getD_eq_getElem?_getD, List.getD_eq_getElem?_getD, List.getElem?_map, List.getElem?_map]
  congr 2
  rw [ByteArray.data_extract, Array.getElem?_toList, Array.getElem?_toList, Array.getElem?_extract]
  rw [if_pos (by show j < min (64 * m + 64) T.size - 64 * m; omega)]
theorem block_cellsV (s : NS) (t : ByteArray) (w : World) (hs : s.ok) (ht : t.size = 64) :
    Calls Tryd.prog 27 #[.agg s.cells, .agg kCells, .string t] w fun e w' => e = .returned (.agg (blockN s (fB (byN t))).cells) ∧ Below w.heap.size w w' := block_calls s t w hs ht
theorem size_cells (s : NS) : s.cells.size = 8 := rfl
theorem cells_one (s : NS) : s.cells.all (·.oneCell') = true := by kernel_rfl
def bJ (n : Nat) : Nat → Nat
  | 0 => b0 n
  | 1 => b8 n
  | 2 => b16 n
  | _ => b24 n
theorem bJ_eq (n : Nat) : ∀ j, j < 4 → n / 256 ^ j % 256 = bJ n j
  | 0, _ => by show n / 1 % 256 = n % 256; rw [Nat.div_one]
  | 1, _ => rfl
  | 2, _ => rfl
  | 3, _ => rfl
  | _ + 4, h => by omega
/-- A digest's cells, with so many bytes of a number, the last ahead. -/
def dJ (A : Array Value) (i n : Nat) : Nat → Array Value
  | 0 => A
  | j + 1 => (dJ A i n j).setIfInBounds (4 * i + 3 - j) (.int .u8 ((bJ n j : Nat) : Int))
def digR (s : NS) : Nat → Array Value
  | 0 => zero32
  | i + 1 => dJ (digR s i) i (nth s i) 4
theorem dJ_zero (A : Array Value) (i n : Nat) : dJ A i n 0 = A := rfl
theorem dJ_size (A : Array Value) (i n : Nat) : ∀ j, (dJ A i n j).size = A.size
  | 0 => rfl
  | j + 1 => by unfold dJ; rw [Array.size_setIfInBounds, dJ_size A i n j]
theorem digR_size (s : NS) : ∀ i, (digR s i).size = 32
  | 0 => rfl
  | i + 1 => by unfold digR; rw [dJ_size, digR_size s i]
theorem digR_all (s : NS) : digR s 8 = (cells8 (dig s)).toArray := by kernel_rfl
/-- In the reference's digits. -/
structure FI (w : World) (N : NS) (D i j : Nat) (wr : World) : Prop where
  below : Below w.heap.size w wr
  lt : w.heap.size + 1 + 1 < D
  d : wr.heap[w.heap.size]? = some (.cells zero32 24 (0, 0))
  v : ∃ cs : Array Value, wr.heap[w.heap.size + 1 + 1]? = some (.cells cs 51 (0, 0)) ∧ (∀ k, i < k → k < 8 → cs[k]? = some (.int .u32 (nth N k : Int))) ∧ (i < 8 → cs[i]? = some (.int .u32 ((nth N i / 256 ^ j : Nat) : Int)))
  o : wr.heap[D]? = some (.cells (dJ (digR N i) i (nth N i) j) 24 (0, 0))
theorem FI.put {w wr : World} {N : NS} {D i j : Nat} (h : FI w N D i j wr) (hi : i < 8) {x y : Int} (hx : x = ((bJ (nth N i) j : Nat) : Int)) (hy : y = ((nth N i / 256 ^ (j + 1) : Nat) : Int)) :
    FI w N D i (j + 1) ((wr.setCell ⟨D, 4 * i + 3 - j, none⟩ (.int .u8 x)).setCell ⟨w.heap.size + 1 + 1, i, none⟩ (.int .u32 y)) := by
  have hl := h.lt
  subst hx hy
  obtain ⟨cs, hv, h1, h2⟩ := h.v
  refine ⟨(h.below.setCell (by simp; omega) _).setCell (by simp; omega) _, hl, ?_, ⟨cs.setIfInBounds i (.int .u32 ((nth N i / 256 ^ (j + 1) : Nat) : Int)), ?_, ?_, ?_⟩, ?_⟩
  · rw [Below.heap_setCell _ _ _ _ (by simp; omega), Below.heap_setCell _ _ _ _ (by simp; omega)]; exact h.d
  · refine block_set ?_ i _
    rw [Below.heap_setCell _ _ _ _ (by simp; omega)]
    exact hv
  · intro k hk hk8
    rw [Array.getElem?_setIfInBounds_ne (by omega)]
    exact h1 k hk hk8
  · intro _
    obtain ⟨hs, _⟩ := Array.getElem?_eq_some_iff.1 (h2 hi)
    rw [Array.getElem?_setIfInBounds_self_of_lt hs]
  · rw [Below.heap_setCell _ _ _ _ (by simp; omega)]
    exact block_set h.o _ _
theorem FI.up {w wr : World} {N : NS} {D i : Nat} (h : FI w N D i 4 wr) : FI w N D (i + 1) 0 wr := by
  obtain ⟨cs, hv, h1, h2⟩ := h.v
  refine ⟨h.below, h.lt, h.d, ⟨cs, hv, fun k hk => h1 k (by omega), fun h8 => ?_⟩, h.o⟩
  rw [Nat.pow_zero, Nat.div_one]
  exact h1 (i + 1) (by omega) h8
theorem ix_ref (i j : Nat) (hi : i < 8) (hj : j < 4) : IntKind.i64.wrap (4 * (i : Int)) = 4 * (i : Int) ∧ IntKind.i64.wrap (4 * (i : Int) + 3) = 4 * (i : Int) + 3 ∧ IntKind.i64.wrap (4 * (i : Int) + 3 - (j : Int)) = 4 * (i : Int) + 3 - (j : Int) ∧
    (4 * (i : Int) + 3 - (j : Int)).toNat = 4 * i + 3 - j ∧ 0 ≤ 4 * (i : Int) + 3 - (j : Int) ∧ (j : Int) ≤ 4 * (i : Int) + 3 ∧ 4 * (i : Int) + 3 - (j : Int) < 32 ∧ ((i : Int)).toNat = i := by
  refine ⟨by rw [IntKind.wrap_i64]; omega, by rw [IntKind.wrap_i64]; omega, by rw [IntKind.wrap_i64]; omega, by omega, by omega, by omega, by omega, by omega⟩
theorem nth_lt (s : NS) (h : s.ok) : ∀ i, nth s i < 4294967296 := by
  obtain ⟨h0, h1, h2, h3, h4, h5, h6, h7⟩ := h
  intro i
  unfold nth
  split <;> assumption
theorem kVal_eq : Value.agg #[.int .u32 1116352408, .int .u32 1899447441, .int .u32 3049323471, .int .u32 3921009573, .int .u32 961987163, .int .u32 1508970993, .int .u32 2453635748, .int .u32 2870763221, .int .u32 3624381080, .int .u32 310598401, .int .u32 607225278, .int .u32 1426881987, .int .u32 1925078388, .int .u32 2162078206, .int .u32 2614888103, .int .u32 3248222580, .int .u32 3835390401, .int .u32 4022224774, .int .u32 264347078, .int .u32 604807628, .int .u32 770255983, .int .u32 1249150122, .int .u32 1555081692, .int .u32 1996064986, .int .u32 2554220882, .int .u32 2821834349, .int .u32 2952996808, .int .u32 3210313671, .int .u32 3336571891, .int .u32 3584528711, .int .u32 113926993, .int .u32 338241895, .int .u32 666307205, .int .u32 773529912, .int .u32 1294757372, .int .u32 1396182291, .int .u32 1695183700, .int .u32 1986661051, .int .u32 2177026350, .int .u32 2456956037, .int .u32 2730485921, .int .u32 2820302411, .int .u32 3259730800, .int .u32 3345764771, .int .u32 3516065817, .int .u32 3600352804, .int .u32 4094571909, .int .u32 275423344, .int .u32 430227734, .int .u32 506948616, .int .u32 659060556, .int .u32 883997877, .int .u32 958139571, .int .u32 1322822218, .int .u32 1537002063, .int .u32 1747873779, .int .u32 1955562222, .int .u32 2024104815, .int .u32 2227730452, .int .u32 2361852424, .int .u32 2428436474, .int .u32 2756734187, .int .u32 3204031479, .int .u32 3329325298] = Value.agg kCells := by kernel_rfl
attribute [local irreducible] W nows kCells stN blockN endN
set_option maxHeartbeats 4000000 in
set_option maxRecDepth 100000 in
theorem refOf_calls (w : World) (s : ByteArray) (hs : s.size ≤ 1000000000) :
    Calls Tryd.prog 11 #[.string s] w fun e w' => e = .returned (digV (sumN (byN s) s.size)) ∧ Below w.heap.size w w' := by
  obtain ⟨kf, T, hf, hT⟩ := filled_eq s hs
  have HF := Lib.hid hf
  clear hf
  go_enter Tryd.func11, Tryd.ntmps11
  go_wp2_with (first
    | (refine wpList_store_mid rfl 50 (.tmp 3) (.tmp 10) rfl (w.heap.size + 1) 0 kCells rfl (by kernel_rfl) (there_old (ds := kCells) (alloc_new _ _ _ (by simp)) (by kernel_rfl)) size50 (by kernel_rfl) ?_; rw [kVal_eq])
    | (go_at_call 26; refine (lighterref04_filled.calls kf s T _ HF.out).mono ?_; rintro e w2 ⟨rfl, hB2⟩))
  have E0 : EI w (byN T) 0 w2 := EI.start _ (by kernel_rfl) (by kernel_rfl) (by kernel_rfl) hB2
  clear hB2
  simp only [setCells_size, new_size]
  have hlen : (byN T).length = T.size := byN_length T
  have hT1 : T.size % 64 = 0 := by
    rw [← hlen, hT, List.length_append, byN_length]
    unfold endN
    simp only [List.length_append, List.length_cons, List.length_replicate, List.length_nil]
    omega
  have hT2 : T.size ≤ 1000000200 := by
    rw [← hlen, hT, List.length_append, byN_length]
    unfold endN
    simp only [List.length_append, List.length_cons, List.length_replicate, List.length_nil]
    omega
  have HT := Lib.hid hT
  clear hT hlen
  go_loopg [6] (T.size / 64) (fun k v6 wr => ∃ m : Nat, v6 = .int .i64 (64 * (m : Int)) ∧ 64 * m ≤ T.size ∧ EI w (byN T) m wr ∧ k = T.size / 64 - m)
  case atStart => exact ⟨0, rfl, by omega, E0, rfl⟩
  case round =>
    obtain ⟨m, rfl, hm, E, rfl⟩ := hrel
    by_cases hlt : 64 * m < T.size
    · have hle : 64 * m + 64 ≤ T.size := by omega
      have hok := stN_ok (fB (byN T)) m
      have hbn := block_next T m hle
      have hes : (T.extract (64 * m) (64 * m + 64)).size = 64 := by
        rw [ByteArray.size_extract]; omega
      have c1 : 64 * (m : Int) < (T.size : Int) := by omega
      have c2 : IntKind.i64.wrap (64 * (m : Int) + 64) = 64 * (m : Int) + 64 := by rw [IntKind.wrap_i64]; omega
      have c3 : 64 * (m : Int) + 64 ≤ (T.size : Int) := by omega
      have c4 : (64 * (m : Int)).toNat = 64 * m := by omega
      have c5 : (64 * (m : Int) + 64).toNat = 64 * m + 64 := by omega
      have c6 : (0 : Int) ≤ 64 * (m : Int) := by omega
      have c7 : 64 * (m : Int) ≤ 64 * (m : Int) + 64 := by omega
      have c8 : (0 : Int) ≤ 64 * (m : Int) + 64 := by omega
      go_wp2
      refine QT.wp_region_below_tail 8 (by kernel_rfl) (by kernel_rfl) ?_
      simp only [List.take_succ_cons, List.take_zero, List.drop_succ_cons, List.drop_zero]
      refine wpQuiet_load_row rfl 51 (.tmp 4) rfl (w.heap.size + 1 + 1) rfl 51 (stN (fB (byN T)) m).cells (0, 0) (.array 8 34) (by rintro _ ⟨p, rfl⟩; exact (E.keep (below_regrown wr p.d p.os)).v) Tryd.underlying51 rfl size51 ?_
      refine wpQuiet_load_row rfl 50 (.tmp 3) rfl (w.heap.size + 1) rfl 50 kCells (0, 0) (.array 64 34) (by rintro _ ⟨p, rfl⟩; exact (E.keep (below_regrown wr p.d p.os)).k) und50 rfl size50 ?_
      quiet_step (fail)
      quiet_step (fail)
      quiet_step (fail)
      quiet_step (fail)
      quiet_step (fail)
      quiet_step ((go_at_call 27; exact Calls.regrown_of (block_cellsV _ _ _ hok hes)))
      refine wpQuiet_nil ?_
      intro w3 hw'
      obtain ⟨pq, hw''⟩ := hw'
      have E3 : EI w (byN T) m w3 := by
        rw [hw'']
        exact E.keep (below_regrown wr pq.d pq.os)
      clear hw'' E
      rw [hbn]
      refine wpList_store_mid rfl 51 (.tmp 4) (.tmp 27) rfl (w.heap.size + 1 + 1) 0 (stN (fB (byN T)) (m + 1)).cells rfl rfl (there_old E3.v ((size_cells _).trans (size_cells _).symm)) size51 (cells_one _) ?_
      have E4 := E3.next (vs := (stN (fB (byN T)) (m + 1)).cells.toList) rfl
      go_wp2
      go_roundg (T.size / 64 - (m + 1))
      case measure => clear c1 c2 c3 c4 c5 c6 c7 c8; omega
      case rel => exact ⟨m + 1, by clear c1 c3 c4 c5 c6 c7 c8 c2; simp; omega, by omega, E4, rfl⟩
    · have hm2 : 64 * m = T.size := by omega
      have hml : w.heap.size + 1 + 1 < wr.heap.size := lt_of_block E.v
      obtain ⟨wo, rfl⟩ : ∃ wo : World, wo = wr := ⟨_, rfl⟩
      have c1 : ¬ 64 * (m : Int) < (T.size : Int) := by omega
      obtain ⟨N, hN⟩ : ∃ N, N = stN (fB (byN T)) m := ⟨_, rfl⟩
      have hfin : dig N = sumN (byN s) s.size := by
        have h0 : (byN s).length = s.size := byN_length s
        unfold sumN
        rw [h0, ← HT.out, byN_length T, hN]
        congr 2
        omega
      have HN := Lib.hid hfin
      have HO := Lib.hid (nth_lt N (by rw [hN]; exact stN_ok _ _))
      clear hfin
      have hE : FI w N wo.heap.size 0 0 (wo.alloc (.cells zero32 24 (0, 0))) := by
        refine ⟨E.below.alloc E.below.size _, hml, ?_, ⟨(stN (fB (byN T)) m).cells, ?_, ?_, ?_⟩, ?_⟩
        · rw [Below.heap_alloc _ _ _ (by omega)]; exact E.d
        · rw [Below.heap_alloc _ _ _ (by omega)]; exact E.v
        · intro k _ hk
          rw [hN]
          exact cells_nth _ k hk
        · intro _
          rw [hN, Nat.pow_zero, Nat.div_one]
          exact cells_nth _ 0 (by decide)
        · exact alloc_new _ _ _ rfl
      clear hN E E0
      go_wp2
      go_loopg [8] 8 (fun k v8 wr => ∃ i : Nat, v8 = .int .i64 i ∧ i ≤ 8 ∧ FI w N wo.heap.size i 0 wr ∧ k = 8 - i)
      case atStart => exact ⟨0, rfl, by omega, hE, rfl⟩
      case round =>
        clear hE
        obtain ⟨i, rfl, hi, R, rfl⟩ := hrel
        by_cases hi8 : i < 8
        · go_wp2
          obtain ⟨wi, rfl⟩ : ∃ wi : World, wi = wr := ⟨_, rfl⟩
          go_loopg [9] 4 (fun k v9 wr => ∃ j : Nat, v9 = .int .i64 j ∧ j ≤ 4 ∧ FI w N wo.heap.size i j wr ∧ k = 4 - j)
          case atStart => exact ⟨0, rfl, by omega, R, rfl⟩
          case round =>
            clear R
            obtain ⟨j, rfl, hj, R, rfl⟩ := hrel
            by_cases hj4 : j < 4
            · obtain ⟨e0, e1, e2, e3, e4, e5, e6, e7⟩ := ix_ref i j hi8 hj4
              obtain ⟨cs, hv, h1, h2⟩ := R.v
              obtain ⟨q, hq⟩ : ∃ q, q = nth N i / 256 ^ j := ⟨_, rfl⟩
              have hx : wr.cell? ⟨w.heap.size + 1 + 1, i, none⟩ = some (.int .u32 (q : Int)) := by rw [hq, block_cell hv]; exact h2 hi8
              have HQ := Lib.hid hq
              have q1 : (q : Int) % 256 = ((bJ (nth N i) j : Nat) : Int) := by
                rw [← bJ_eq _ _ hj4, ← hq]
                rfl
              have q2 : (q : Int) / 256 % 4294967296 = ((nth N i / 256 ^ (j + 1) : Nat) : Int) := by
                have hb : q < 4294967296 := by
                  rw [hq]
                  exact Nat.lt_of_le_of_lt (Nat.div_le_self _ _) (HO.out i)
                rw [Nat.pow_succ, ← Nat.div_div_eq_div_mul, ← hq]
                omega
              have R2 := R.put hi8 q1 q2
              clear hq q1 q2 h1 h2
              have hf := block_frozen hv i
              obtain ⟨o0, ho0⟩ := row_some R.o (4 * i + 3 - j) (by rw [dJ_size, digR_size]; omega)
              have hfo := block_frozen R.o (4 * i + 3 - j)
              go_wp2
              go_roundg (4 - (j + 1))
              case measure => clear e0 e1 e2 e3 e4 e5 e6 e7; omega
              case rel => exact ⟨j + 1, by simp, by clear e0 e1 e2 e3 e4 e5 e6 e7; omega, R2, rfl⟩
            · have j4 : j = 4 := by omega
              subst j4
              go_wp2
              go_roundg (8 - (i + 1))
              case measure => omega
              case rel => exact ⟨i + 1, by simp, by omega, R.up, rfl⟩
        · have i8 : i = 8 := by omega
          subst i8
          have hD : wr.heap[wo.heap.size]? = some (.cells (cells8 (dig N)).toArray 24 (0, 0)) := by rw [← digR_all, ← dJ_zero (digR N 8) 8 (nth N 8)]; exact R.o
          go_wp2_with (first
            | (refine wpList_load_row rfl 24 (.tmp 7) rfl wo.heap.size rfl 24 (cells8 (dig N)).toArray (0, 0) (.array 32 5) hD und24 rfl (digV_size _ (dig_length _)) ?_)
            | (refine wpList_store_mid rfl 24 (.tmp 2) (.tmp 53) rfl w.heap.size 0 (cells8 (dig N)).toArray rfl rfl (there_32 R.d rfl (dig N) (dig_length _)) (digV_size _ (dig_length _)) (all_oneCell_toArray (cells8_one _)) ?_))
          refine bodyPost_ret (v := digV (dig N)) ?_ rfl ⟨by rw [HN.out], setCells_below _ _ _ _ _ (Nat.le_refl _) R.below⟩
          exact results_cell_row Tryd.results11 _ _ _ _ _ _ _ rfl (setCells_whole _ _ _ R.d (by show 32 = (cells8 (dig N)).length; rw [cells8_length, dig_length])) und24 rfl (digV_size _ (dig_length _))
end Go.Proofs.YtegjphfkkafomaaDoor.Sha
