/- ShaNone: the walk. -/
import Derived.Test.YtegjphfkkafomaaDoorSha17
namespace Go.Proofs.YtegjphfkkafomaaDoor.Sha
open Go.RowKit Go.Proofs Go.Proofs.YtegjphfkkafomaaDoor.Q Go.Proofs.YtegjphfkkafomaaDoorW.PrintWords Go.Proofs.YtegjphfkkafomaaDoorW.PrintLast Go.Proofs.YtegjphfkkafomaaDoorW.PrintMore

theorem NoH.keep {w w' : World} {v : Value} (h : NoH w v) (hB : Below w.heap.size w w') : NoH w' v := by
  rcases h with rfl | ⟨p, rfl, h0, h1⟩
  · exact .inl rfl
  · exact .inr ⟨p, rfl, by rw [hB.cell (block_lt_of_cell h0)]; exact h0, by rw [hB.cell (block_lt_of_cell h1)]; exact h1⟩
theorem zeroD_val : Value.agg #[.int .u8 0, .int .u8 0, .int .u8 0, .int .u8 0, .int .u8 0, .int .u8 0, .int .u8 0, .int .u8 0, .int .u8 0, .int .u8 0, .int .u8 0, .int .u8 0, .int .u8 0, .int .u8 0, .int .u8 0, .int .u8 0, .int .u8 0, .int .u8 0, .int .u8 0, .int .u8 0, .int .u8 0, .int .u8 0, .int .u8 0, .int .u8 0, .int .u8 0, .int .u8 0, .int .u8 0, .int .u8 0, .int .u8 0, .int .u8 0, .int .u8 0, .int .u8 0] = digV zeroD := by kernel_rfl
theorem neq_zero (w : World) : (Go.binOp .neq 24 (digV zeroD) (Value.agg #[.int .u8 0, .int .u8 0, .int .u8 0, .int .u8 0, .int .u8 0, .int .u8 0, .int .u8 0, .int .u8 0, .int .u8 0, .int .u8 0, .int .u8 0, .int .u8 0, .int .u8 0, .int .u8 0, .int .u8 0, .int .u8 0, .int .u8 0, .int .u8 0, .int .u8 0, .int .u8 0, .int .u8 0, .int .u8 0, .int .u8 0, .int .u8 0, .int .u8 0, .int .u8 0, .int .u8 0, .int .u8 0, .int .u8 0, .int .u8 0, .int .u8 0, .int .u8 0])).run Tryd.prog w = .ok (.bool false) w := by
  rw [zeroD_val]
  exact neq_same zeroD rfl (by decide) w
theorem guard_zero (op : BinOp) (x y : Operand) (l : List Nat) (w : World) : (eqGuard op 24 x y (digV l) (Value.agg #[.int .u8 0, .int .u8 0, .int .u8 0, .int .u8 0, .int .u8 0, .int .u8 0, .int .u8 0, .int .u8 0, .int .u8 0, .int .u8 0, .int .u8 0, .int .u8 0, .int .u8 0, .int .u8 0, .int .u8 0, .int .u8 0, .int .u8 0, .int .u8 0, .int .u8 0, .int .u8 0, .int .u8 0, .int .u8 0, .int .u8 0, .int .u8 0, .int .u8 0, .int .u8 0, .int .u8 0, .int .u8 0, .int .u8 0, .int .u8 0, .int .u8 0, .int .u8 0])).run Tryd.prog w = .ok () w := by
  rw [zeroD_val]
  exact guard_dig op x y l zeroD w
attribute [local irreducible] digV
set_option maxHeartbeats 1000000 in
set_option maxRecDepth 100000 in
theorem shaNone_calls (w : World) (s : ByteArray) (hL : Laid w) : Calls Tryd.prog 5 #[.string s] w fun e w' => e = .returned (.bool true) ∧ Below w.heap.size w w' := by
  have hlt := hL.lt
  have HL := Lib.hid hL
  clear hL
  have hneq := neq_zero
  have hgd := guard_zero
  go_enter Tryd.func5, Tryd.ntmps5
  go_wp2
  go_loopg [3, 4] 2 (fun k v3 v4 wr => ∃ t : Nat, v4 = .int .i64 t ∧ t ≤ 2 ∧ NoH wr v3 ∧ Below w.heap.size w wr ∧ k = 2 - t)
  case atStart => exact ⟨0, rfl, by omega, .inl rfl, Below.refl _ _, rfl⟩
  case round =>
    obtain ⟨t, rfl, ht, N, hB, rfl⟩ := hrel
    by_cases h2 : t < 2
    · go_wp2_with (first
        | (go_at_call 14; refine (write_none wr _ s N).mono ?_; rintro e w2 ⟨rfl, rfl⟩)
        | (go_at_call 15; refine (sum_none _ _ N).mono ?_; rintro e w3 ⟨rfl, hB3⟩; have N3 := N.keep hB3; have hB3' := hB.trans (hB3.mono hB.size))
        | (go_at_call 16; refine (size_none w3 _ N3).mono ?_; rintro e w4 ⟨rfl, rfl⟩)
        | (go_at_call 13; refine (copy_none _ _ N3).mono ?_; rintro e w5 ⟨rfl, rfl⟩))
      go_roundg (2 - (t + 1))
      case measure => omega
      case rel => exact ⟨t + 1, by simp, by omega, .inr ⟨w5.heap.size, rfl, block_cell (alloc_new w5 _ _ rfl) 0, block_cell (alloc_new w5 _ _ rfl) 10⟩, hB3'.alloc hB3'.size _, rfl⟩
    · go_wp2_with (go_at_call 9; refine (hashed_calls _ (HL.out.of_below hB hlt)).mono ?_; rintro e w2 ⟨rfl, hB2⟩)
      go_ret
      exact ⟨rfl, hB.trans (hB2.mono hB.size)⟩
end Go.Proofs.YtegjphfkkafomaaDoor.Sha
