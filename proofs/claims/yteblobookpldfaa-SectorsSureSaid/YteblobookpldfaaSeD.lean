/- slices.Repeat of a list of one string. -/
import Derived.Test.YteblobookpldfaaSeC
import Derived.Test.YteblobookpldfaaQTail
import Derived.Laws.CopyRow
import Derived.Laws.CopyOwn
import Derived.Deep.RegionLaw
namespace Go.Proofs.Yteblobookpldfaa.Se
open Go.RowKit Go.Shelf Go.Proofs

theorem mul_calls (n : Nat) (hn : n ≤ 4096) (w : World) : Calls Try.prog 39 #[.int .u64 1, .int .u64 (n : Int)] w fun e w' => e = .returned (.tuple #[.int .u64 0, .int .u64 (n : Int)]) ∧ w = w' := by
  have h := Any.bits_Mul (P := Try.prog) (ρ := lays105_ren) { lays105 with } 1 n (by decide) (by omega) w
  rw [show lays105_ren.f 212 = 39 from by kernel_rfl, Nat.one_mul, Nat.div_eq_of_lt (by omega), Nat.mod_eq_of_lt (by omega)] at h
  exact h.mono fun e w' ⟨h1, h2⟩ => ⟨h1, h2.symm⟩
theorem info9 : (Try.prog.info? 9).map (fun i => (i.zero, i.size, i.bytes)) = some (some (.string ⟨#[]⟩), 1, 16) := by kernel_rfl
theorem size9 : (Try.prog.info? 9).map (·.size) = some 1 := by kernel_rfl
/-- Filled so far. -/
def RowZ (W : World) (g n : Nat) (s : ByteArray) (i : Nat) : Prop := ∃ row : List Value, W.heap[g]? = some (.cells row.toArray 9 (0, 0)) ∧ row.length = n ∧ ∀ j, j < i → row[j]? = some (.string s)
theorem RowZ.copy {W : World} {g n i m k : Nat} {s : ByteArray} (ty : TypeId) (a : Addr) (c1 c2 : Nat) (h : RowZ W g n s i) (hk : Nat.min m (n - i) = k) (hi : i ≤ n) (hsrc : ∀ j, j < k → W.cell? (a.add j) = some (.string s)) {B : Nat} (hB : B ≤ g) :
    ∃ W', (Builtin.copy_ #[44, 44] ty #[.slice (some ⟨g, i, none⟩) (n - i) c1, .slice (some a) m c2]).run Try.prog W = .ok (.int .i64 (k : Int)) W' ∧ RowZ W' g n s (i + k) ∧ Below B W W' := by
  obtain ⟨row, h1, h2, h3⟩ := h
  have hl : (List.replicate k (Value.string s)).length = k := List.length_replicate
  have hkn : k ≤ n - i := by rw [← hk]; exact Nat.min_le_right _ _
  have hr := run_copy_row (P := Try.prog) W 44 44 ty 9 g i (n - i) c1 a m c2 row.toArray 9 (List.replicate k (.string s)) Try.underlying44 size9 h1 (by rw [hl, hk]) (fun j v hv => by
    rw [List.getElem?_replicate] at hv
    split at hv
    · rename_i hj
      obtain rfl := Option.some.inj hv
      exact hsrc j hj
    · cases hv) (by rw [hl, List.size_toArray]; omega) (fun v hv => by rw [List.eq_of_mem_replicate hv]; rfl)
  rw [hl] at hr
  refine ⟨_, hr, ⟨_, setRow_heap W g _ _ 9 _ h1, ?_, fun j hj => ?_⟩, below_setRow (Below.refl _ _) hB _⟩
  · simp
    omega
  · by_cases e : j < i
    · rw [List.append_assoc, List.getElem?_append_left (by simp; omega)]
      simp [e, h3 j e]
    · rw [List.append_assoc, List.getElem?_append_right (by simp; omega), List.getElem?_append_left (by simp; omega), List.getElem?_replicate, if_pos (by simp; omega)]
theorem RowZ.cell {W : World} {g n i : Nat} {s : ByteArray} (h : RowZ W g n s i) (j : Nat) (hj : j < i) : W.cell? ((⟨g, 0, none⟩ : Addr).add j) = some (.string s) := by
  obtain ⟨row, h1, _, h3⟩ := h
  rw [add_zero, block_cell h1, List.getElem?_toArray]
  exact h3 j hj
theorem RowZ.own {W : World} {g n : Nat} {s : ByteArray} (h : RowZ W g n s n) (hn : n ≤ maxLen) {B : Nat} (hB : B ≤ g) : W.ownsRow B 9 1 (.slice (some ⟨g, 0, none⟩) n n) n (List.replicate n (Value.string s)) := by
  obtain ⟨row, h1, h2, h3⟩ := h
  refine ⟨by simp, .inr ⟨g, n, row.toArray, rfl, hB, h1, Nat.le_refl _, hn, by simp [h2], ?_⟩⟩
  rw [Nat.mul_one]
  show row.take n = _
  rw [List.take_of_length_le (by omega)]
  apply List.ext_getElem?
  intro j
  rw [List.getElem?_replicate]
  by_cases hj : j < n
  · rw [if_pos hj, h3 j hj]
  · rw [if_neg hj, List.getElem?_eq_none (by omega)]
/-- copy, as one step of a region that draws. -/
theorem step_copy {P : Program} {ops : Array Oper} {o : Oper} {a : Act} {w : World} {K : Act → World → Prop} {Q : Exit → Act → World → Prop} {E : Prop} (hgd : o.guard = none) (d s : Operand) (t : TypeId)
    (ho : o.op = .call { callee := .builtin .copy, args := #[d, s], argTypes := #[t, t] }) (dv sv : Value) (hd : a.eval d = dv) (hs : a.eval s = sv) (u : Value) (w' : World)
    (hrun : (Builtin.copy_ #[t, t] o.type #[dv, sv]).run P w = .ok u w') (hK : K (a.put o.dst u) w') :
    if Region.wanted o (yielded ops a.tmps) = true then Oper.wp P o a w K Q else E := by
  have hw : Region.wanted o (yielded ops a.tmps) = true := by simp [Region.wanted, hgd]
  rw [if_pos hw]
  unfold Oper.wp
  simp [execOp, ho, resolve, invoke, builtin, hd, hs, hrun, Result.andThen]
  exact hK
set_option maxHeartbeats 4000000 in
set_option maxRecDepth 100000 in
theorem repeat_list (W : World) (n b c : Nat) (s : ByteArray) (h1 : 1 ≤ n) (hn : n ≤ 4096) (hb : W.cell? ⟨b, 0, none⟩ = some (.string s)) : Calls Try.prog 24 #[.slice (some ⟨b, 0, none⟩) 1 c, .int .i64 (n : Int)] W fun e w' =>
    e = .returned (.slice (some ⟨W.heap.size, 0, none⟩) n n) ∧ w'.ownsRow W.heap.size 9 1 (.slice (some ⟨W.heap.size, 0, none⟩) n n) n (List.replicate n (Value.string s)) ∧ Below W.heap.size W w' := by
  obtain ⟨i0, hi, hz0, hz1, hz2⟩ := info_parts info9
  obtain ⟨Z, hZ⟩ : ∃ Z, Z = madeCells #[.string ⟨#[]⟩] n := ⟨_, rfl⟩
  have hmk : ∀ W : World, (Instr.makeSlice 44 (.int .i64 (n : Int)) (.int .i64 (n : Int))).run Try.prog W = .ok (.slice (some ⟨W.heap.size, 0, none⟩) n n) (W.alloc (.cells Z 9)) := fun W => by
    have h := run_make (P := Try.prog) W 44 9 i0 (.string ⟨#[]⟩) Try.underlying44 hi hz0 .i64 .i64 n n (by omega) (by omega) (by rw [hz2]; omega) (by omega)
    rw [hz1, Nat.mul_one] at h
    rw [hZ]
    simpa [Value.cells] using h
  have hZ2 : RowZ (W.alloc (.cells Z 9)) W.heap.size n s 0 := by
    refine ⟨Z.toList, by rw [Array.toArray_toList]; exact alloc_new _ _ _ rfl, ?_, fun j hj => by omega⟩
    rw [hZ, toList_madeCells_one, List.length_replicate]
  obtain ⟨W1, hW1, hR1, hB1⟩ := hZ2.copy 3 ⟨b, 0, none⟩ n c (k := 1) (m := 1) (B := W.heap.size) (by simp [Nat.min_def]; omega) (by omega) (fun j hj => by
    obtain rfl : j = 0 := by omega
    rw [add_zero]
    exact Lib.cell?_alloc_some _ hb) (Nat.le_refl _)
  rw [Nat.sub_zero] at hW1
  have HB1 := Lib.hid (((Below.refl W.heap.size W).alloc (Nat.le_refl _) (.cells Z 9)).trans hB1)
  have HR1 := Lib.hid hR1
  clear hi hz0 hz1 hz2 hZ hZ2 hR1 hB1
  have g1 : ¬ (n : Int) < 0 := by omega
  have g2 : (n : Int) % 18446744073709551616 = n := by omega
  have g3 : ¬ (9223372036854775807 : Int) < (n : Int) := by omega
  have g5 : IntKind.i64.wrap (n : Int) = n := by rw [IntKind.wrap_i64]; omega
  have HM := Lib.hid (fun w => mul_calls n hn w)
  go_enter Try.func24, Try.ntmps24
  go_wp2_with (go_at_call 39; refine (HM.out _).mono ?_; rintro e w' ⟨rfl, rfl⟩)
  clear hmk hW1
  have hR1 := HR1.out
  have hB1 := HB1.out
  clear HR1 HB1
  obtain ⟨ab, hab⟩ : ∃ ab, ab = (⟨W.heap.size, 0, none⟩ : Addr) := ⟨_, rfl⟩
  rw [← hab]
  have HAB := Lib.hid hab
  clear hab
  go_loopg [8] (n - 1) (fun k v8 wr => ∃ i : Nat, v8 = .int .i64 (i : Int) ∧ 1 ≤ i ∧ i ≤ n ∧ RowZ wr W.heap.size n s i ∧ Below W.heap.size W wr ∧ k = n - i)
  case atStart => exact ⟨1, rfl, by omega, by omega, hR1, hB1, rfl⟩
  case round =>
    clear hR1 hB1
    obtain ⟨i, rfl, hi1, hi, hT, hB, rfl⟩ := hrel
    by_cases hil : i < n
    · have c1 : (i : Int) < (n : Int) := by omega
      have c3 : ((i : Int)).toNat = i := by omega
      have c4 : (0 : Int) ≤ (i : Int) := by omega
      have hne : ¬ n = i := by omega
      obtain ⟨k, hk⟩ : ∃ k, k = Nat.min i (n - i) := ⟨_, rfl⟩
      have hkk : k = i ∧ i ≤ n - i ∨ k = n - i ∧ n - i ≤ i := by
        rcases Nat.le_total i (n - i) with h | h
        · exact .inl ⟨hk.trans (Nat.min_eq_left h), h⟩
        · exact .inr ⟨hk.trans (Nat.min_eq_right h), h⟩
      have hk1 : 1 ≤ k := by omega
      have hk2 : i + k ≤ n := by omega
      have hD : RowZ wr.drew W.heap.size n s i := hT
      obtain ⟨W2, hW2, hR2, hB2⟩ := hD.copy 3 ⟨W.heap.size, 0, none⟩ (n - i) n (k := k) (m := i) (B := W.heap.size) hk.symm (by omega) (fun j hj => hD.cell j (by omega)) (Nat.le_refl _)
      rw [← add_zero, ← HAB.out] at hW2
      have HW2 := Lib.hid hW2
      have HR2 := Lib.hid hR2
      have HB2 := Lib.hid (hB.drew.trans hB2)
      clear hT hB hW2 hR2 hB2 hk hD hkk
      go_upto_region 9 with fail
      go_region_law (refine step_copy rfl (.tmp 41) (.tmp 44) 44 rfl (.slice (some (ab.add i)) (n - i) (n - i)) (.slice (some ab) i n) (by simp [Act.eval, go_sem]) (by simp [Act.eval, go_sem]) (.int .i64 (k : Int)) W2 (by with_reducible exact HW2.out) ?_)
      have hw1 : IntKind.i64.wrap ((i : Int) + (k : Int)) = ((i + k : Nat) : Int) := by rw [IntKind.wrap_i64]; omega
      go_wp2
      go_roundg (n - (i + k))
      case measure => omega
      case rel => exact ⟨i + k, by first | rfl | simp [hw1] | (rw [hw1]), by omega, by omega, HR2.out, HB2.out, rfl⟩
    · obtain rfl : i = n := by omega
      have HO := Lib.hid (hT.own (by unfold maxLen; omega) (Nat.le_refl W.heap.size))
      have c2 : ¬ (i : Int) < (i : Int) := by omega
      clear hT
      go_wp2
      go_ret
      exact ⟨by rw [HAB.out]; rfl, HO.out, hB⟩
end Go.Proofs.Yteblobookpldfaa.Se
