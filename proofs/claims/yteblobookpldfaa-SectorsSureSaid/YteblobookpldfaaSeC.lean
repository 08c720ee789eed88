/- A sector's bytes, made by one byte. -/
import Derived.Test.YteblobookpldfaaSeB
namespace Go.Proofs.Yteblobookpldfaa.Se
open Go.RowKit Go.Shelf Go.Proofs

theorem info5 : (Try.prog.info? 5).map (fun i => (i.zero, i.size, i.bytes)) = some (some (.int .u8 0), 1, 1) := by kernel_rfl
theorem made_get (m j : Nat) (h : j < m) : (madeCells #[.int .u8 0] m)[j]? = some (.int .u8 0) := by
  have h1 := toList_madeCells_one (.int .u8 0) m
  rw [← Array.getElem?_toList, h1, List.getElem?_replicate, if_pos h]
theorem made_size (m : Nat) : (madeCells #[.int .u8 0] m).size = m := by
  have h1 := congrArg List.length (toList_madeCells_one (.int .u8 0) m)
  rw [Array.length_toList, List.length_replicate] at h1
  exact h1
/-- So far filled. -/
def RowS (W : World) (g N : Nat) (c : UInt8) (i : Nat) : Prop := ∃ row : Array Value, W.heap[g]? = some (.cells row 5 (0, 0)) ∧ row.size = N ∧ ∀ j, j < N → row[j]? = some (.int .u8 ((if j < i then c.toNat else 0 : Nat) : Int))
theorem RowS.cell {W : World} {g N : Nat} {c : UInt8} {i : Nat} (h : RowS W g N c i) (j : Nat) (hj : j < N) : W.cell? ((⟨g, 0, none⟩ : Addr).add j) = some (.int .u8 ((if j < i then c.toNat else 0 : Nat) : Int)) := by
  obtain ⟨row, h1, _, h3⟩ := h
  rw [add_zero, block_cell h1]
  exact h3 j hj
theorem RowS.frozen {W : World} {g N : Nat} {c : UInt8} {i : Nat} (h : RowS W g N c i) (j : Nat) : W.frozen? ((⟨g, 0, none⟩ : Addr).add j) = false := by
  obtain ⟨row, h1, _, _⟩ := h
  rw [add_zero]
  exact block_frozen h1 j
theorem RowS.set {W : World} {g N : Nat} {c : UInt8} {i : Nat} (h : RowS W g N c i) (hi : i < N) : RowS (W.setCell ((⟨g, 0, none⟩ : Addr).add i) (.int .u8 (c.toNat : Int))) g N c (i + 1) := by
  obtain ⟨row, h1, h2, h3⟩ := h
  rw [add_zero]
  refine ⟨_, block_set h1 i _, by rw [Array.size_setIfInBounds]; exact h2, fun j hj => ?_⟩
  rw [Array.getElem?_setIfInBounds]
  by_cases e : j = i
  · subst e
    rw [if_pos rfl, if_pos (by rw [h2]; exact hi), if_pos (by omega)]
  · rw [if_neg (fun h => e h.symm), h3 j hj]
    by_cases e2 : j < i
    · rw [if_pos e2, if_pos (by omega)]
    · rw [if_neg e2, if_neg (by omega)]
theorem RowS.text {W : World} {g : Nat} {c : UInt8} (h : RowS W g 512 c 512) : (convert 49 9 (.slice (some ⟨g, 0, none⟩) 512 512)).run Try.prog W = .ok (.string (secS c)) W := by
  have := run_convert_bytes_back (P := Try.prog) W 49 9 5 ⟨g, 0, none⟩ 512 (List.replicate 512 c) Try.underlying49 Try.underlying5 Try.underlying9 (fun j hj => by
    have hj' : j < 512 := by rw [List.length_replicate] at hj; exact hj
    rw [h.cell j hj', if_pos hj', List.getElem_replicate])
  rw [List.length_replicate] at this
  exact this
set_option maxHeartbeats 2000000 in
theorem sector_calls (W : World) (c : UInt8) : Calls Try.prog 23 #[.int .u8 (c.toNat : Int)] W fun e w' => e = .returned (.string (secS c)) ∧ Below W.heap.size W w' := by
  obtain ⟨i0, hi, hz0, hz1, hz2⟩ := info_parts info5
  obtain ⟨Z, hZ⟩ : ∃ Z, Z = madeCells #[.int .u8 0] 512 := ⟨_, rfl⟩
  have hmk : ∀ W : World, (Instr.makeSlice 49 (.int .i64 512) (.int .i64 512)).run Try.prog W = .ok (.slice (some ⟨W.heap.size, 0, none⟩) 512 512) (W.alloc (.cells Z 5)) := fun W => by
    have h := run_make (P := Try.prog) W 49 5 i0 (.int .u8 0) Try.underlying49 hi hz0 .i64 .i64 512 512 (by omega) (by omega) (by rw [hz2]; omega) (by omega)
    rw [hz1, Nat.mul_one] at h
    rw [hZ]
    exact h
  have hT0 : RowS (W.alloc (.cells Z 5)) W.heap.size 512 c 0 := by
    refine ⟨_, alloc_new _ _ _ rfl, ?_, fun j hj => ?_⟩
    · rw [hZ]; exact made_size 512
    · rw [hZ, made_get 512 j hj]
      simp
  have HT0 := Lib.hid hT0
  clear hi hz0 hz1 hz2 hZ hT0
  go_enter Try.func23, Try.ntmps23
  go_wp2
  clear hmk
  have hB0 : Below W.heap.size W (W.alloc (.cells Z 5)) := (Below.refl _ _).alloc (Nat.le_refl _) _
  have hT0 := HT0.out
  clear HT0
  generalize W.alloc (.cells Z 5) = w1 at *
  obtain ⟨ab, hab⟩ : ∃ ab, ab = (⟨W.heap.size, 0, none⟩ : Addr) := ⟨_, rfl⟩
  rw [← hab]
  have HAB := Lib.hid hab
  clear hab
  go_loopg [4] 512 (fun k v4 wr => ∃ i : Nat, v4 = .int .i64 (i : Int) ∧ i ≤ 512 ∧ RowS wr W.heap.size 512 c i ∧ Below W.heap.size W wr ∧ k = 512 - i)
  case atStart => exact ⟨0, rfl, by omega, hT0, hB0, rfl⟩
  case round =>
    clear hT0 hB0
    obtain ⟨i, rfl, hi, hT, hB, rfl⟩ := hrel
    by_cases hil : i < 512
    · have c1 : (i : Int) < 512 := by omega
      have c3 : ((i : Int)).toNat = i := by omega
      have c4 : (0 : Int) ≤ (i : Int) := by omega
      have hc := hT.cell i hil
      have hf := hT.frozen i
      have HN := Lib.hid (hT.set hil)
      have HB := Lib.hid (show Below W.heap.size W (wr.setCell ((⟨W.heap.size, 0, none⟩ : Addr).add i) (.int .u8 (c.toNat : Int))) from by
        rw [add_zero]
        exact hB.setCell (p := ⟨W.heap.size, i, none⟩) (Nat.le_refl _) _)
      rw [← HAB.out] at hc hf HN HB
      clear hT hB
      go_wp2
      go_roundg (512 - (i + 1))
      case measure => omega
      case rel => exact ⟨i + 1, by simp, by omega, HN.out, HB.out, rfl⟩
    · obtain rfl : i = 512 := by omega
      have hx := hT.text
      rw [← HAB.out] at hx
      clear hT
      go_wp2
      go_ret
      exact ⟨rfl, hB⟩
end Go.Proofs.Yteblobookpldfaa.Se
