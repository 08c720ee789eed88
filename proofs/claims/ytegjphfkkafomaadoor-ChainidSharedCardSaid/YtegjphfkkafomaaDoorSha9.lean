/- A hasher that is none: the program's walks. -/
import Derived.Test.YtegjphfkkafomaaDoorSha8
namespace Go.Proofs.YtegjphfkkafomaaDoor.Sha
open Go.RowKit Go.Proofs Go.Proofs.YtegjphfkkafomaaDoor.Q Go.Proofs.YtegjphfkkafomaaDoorW.PrintWords Go.Proofs.YtegjphfkkafomaaDoorW.PrintLast Go.Proofs.YtegjphfkkafomaaDoorW.PrintMore

def zeroD : List Nat := List.replicate 32 0
theorem zeroD_cells : (cells8 zeroD).toArray = zero32 := rfl

/-- No hasher: nil, or one that New did not make. -/
def NoH (w : World) (v : Value) : Prop := v = .pointer none ∨ ∃ p, v = .pointer (some ⟨p, 0, none⟩) ∧ w.cell? ⟨p, 0, none⟩ = some (.bool false) ∧ w.cell? ⟨p, 10, none⟩ = some (.int .i64 0)

theorem write_none (w : World) (v : Value) (s : ByteArray) (H : NoH w v) : Calls Tryd.prog 14 #[v, .string s] w fun e w' => e = .returned (.int .i64 0) ∧ w' = w := by
  rcases H with rfl | ⟨p, rfl, h0, h1⟩
  · go_enter Tryd.func14, Tryd.ntmps14
    go_wp2
    go_ret
    exact ⟨rfl, rfl⟩
  · go_enter Tryd.func14, Tryd.ntmps14
    go_wp2
    go_ret
    exact ⟨rfl, rfl⟩
theorem size_none (w : World) (v : Value) (H : NoH w v) : Calls Tryd.prog 16 #[v] w fun e w' => e = .returned (.int .i64 0) ∧ w' = w := by
  rcases H with rfl | ⟨p, rfl, h0, h1⟩
  · go_enter Tryd.func16, Tryd.ntmps16
    go_wp2
    go_ret
    exact ⟨rfl, rfl⟩
  · go_enter Tryd.func16, Tryd.ntmps16
    go_wp2
    go_ret
    exact ⟨rfl, rfl⟩
theorem copy_none (w : World) (v : Value) (H : NoH w v) : Calls Tryd.prog 13 #[v] w fun e w' => e = .returned (.pointer none) ∧ w' = w := by
  rcases H with rfl | ⟨p, rfl, h0, h1⟩
  · go_enter Tryd.func13, Tryd.ntmps13
    go_wp2
    go_ret
    exact ⟨rfl, rfl⟩
  · go_enter Tryd.func13, Tryd.ntmps13
    go_wp2
    go_ret
    exact ⟨rfl, rfl⟩
theorem NoH.alloc {w : World} {v : Value} (H : NoH w v) (o : Obj) : NoH (w.alloc o) v := by
  rcases H with rfl | ⟨p, rfl, h0, h1⟩
  · exact .inl rfl
  · have hp := block_lt_of_cell h0
    exact .inr ⟨p, rfl, by rw [World.cell?_of_block (Below.heap_alloc w o p hp)]; exact h0, by rw [World.cell?_of_block (Below.heap_alloc w o p hp)]; exact h1⟩

set_option maxHeartbeats 4000000 in
set_option maxRecDepth 100000 in
theorem sum_none (w : World) (v : Value) (H : NoH w v) : Calls Tryd.prog 15 #[v] w fun e w' => e = .returned (digV zeroD) ∧ Below w.heap.size w w' := by
  have HH := Lib.hid (show ∀ o, NoH (w.alloc o) v from fun o => H.alloc o)
  clear H
  go_enter Tryd.func15, Tryd.ntmps15
  go_wp2_with (first
    | (go_at_call 13; refine (copy_none _ v (HH.out _)).mono ?_; rintro e w2 ⟨rfl, rfl⟩)
    | (refine wpList_load_row rfl 24 (.tmp 2) rfl w.heap.size rfl 24 (cells8 zeroD).toArray (0, 0) (.array 32 5) (alloc_new w _ _ rfl) und24 rfl size24 ?_)
    | (refine wpList_store_mid rfl 24 (.tmp 2) (.tmp 12) rfl w.heap.size 0 (cells8 zeroD).toArray rfl rfl (row_there (alloc_new w _ _ rfl)) size24 (all_oneCell_toArray (cells8_one _)) ?_))
  refine bodyPost_ret (v := digV zeroD) ?_ rfl ⟨rfl, setCells_below _ _ _ _ _ (Nat.le_refl _) ((Below.refl _ _).alloc (Nat.le_refl _) _)⟩
  exact results_cell_row Tryd.results15 _ _ _ _ _ _ _ rfl (setCells_whole _ _ _ (alloc_new w _ _ rfl) rfl) und24 rfl size24
end Go.Proofs.YtegjphfkkafomaaDoor.Sha
