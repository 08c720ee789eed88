/- ShaOf: the walk. -/
import Derived.Test.YtegjphfkkafomaaDoorSha16
namespace Go.Proofs.YtegjphfkkafomaaDoor.Sha
open Go.RowKit Go.Proofs Go.Proofs.YtegjphfkkafomaaDoor.Q Go.Proofs.YtegjphfkkafomaaDoorW.PrintWords Go.Proofs.YtegjphfkkafomaaDoorW.PrintLast Go.Proofs.YtegjphfkkafomaaDoorW.PrintMore

def layB : Obj → Obj
  | .cells _ t fr => .cells beginN.cells t fr
  | o => o
def layK : Obj → Obj
  | .cells _ t fr => .cells kCells t fr
  | o => o
/-- A world in which the two tables hold what the program lays. -/
def layWorld (w : World) : World := { w with heap := (w.heap.modify 0 layB).modify 1 layK }
theorem dig_lt (s : NS) : ∀ x ∈ dig s, x < 256 := by
  intro x hx
  unfold dig four b24 b16 b8 b0 at hx
  simp only [List.mem_append, List.mem_cons, List.not_mem_nil, or_false] at hx
  omega
theorem sumN_lt (l : List Nat) (z : Nat) : ∀ x ∈ sumN l z, x < 256 := dig_lt _
theorem eql_same (l : List Nat) (h1 : l.length = 32) (hl : ∀ x ∈ l, x < 256) (w : World) : (Go.binOp .eql 24 (digV l) (digV l)).run Tryd.prog w = .ok (.bool true) w := by
  rw [eql_dig l l h1 h1 hl hl]
  simp
theorem neq_same (l : List Nat) (h1 : l.length = 32) (hl : ∀ x ∈ l, x < 256) (w : World) : (Go.binOp .neq 24 (digV l) (digV l)).run Tryd.prog w = .ok (.bool false) w := by
  rw [neq_dig l l h1 h1 hl hl]
  simp
attribute [local irreducible] sumN digV byN
set_option maxHeartbeats 1000000 in
set_option maxRecDepth 100000 in
theorem shaOf_calls (w : World) (s : ByteArray) (hL : Laid w) : Calls Tryd.prog 3 #[.string s] w fun e w' => e = .returned (.bool true) ∧ Below w.heap.size w w' := by
  have hlt := hL.lt
  by_cases h : 3000 < s.size
  · have h1 : (3000 : Int) < (s.size : Int) := by omega
    go_enter Tryd.func3, Tryd.ntmps3
    go_wp2_with (go_at_call 9; refine (hashed_calls w hL).mono ?_; rintro e w2 ⟨rfl, hB⟩)
    go_ret
    exact ⟨rfl, hB⟩
  · have h1 : ¬ (3000 : Int) < (s.size : Int) := by omega
    have heq := eql_same (sumN (byN s) s.size) (sumN_length _ _) (sumN_lt _ _)
    have hgd := guard_dig
    go_enter Tryd.func3, Tryd.ntmps3
    go_wp2_with (first
      | (go_at_call 10; refine (of_calls w s hL (by omega)).mono ?_; rintro e w2 ⟨rfl, hB2⟩)
      | (go_at_call 11; refine (refOf_calls w2 s (by omega)).mono ?_; rintro e w3 ⟨rfl, hB3⟩; have hB := hB2.trans (hB3.mono hB2.size))
      | (go_at_call 9; refine (hashed_calls w3 (hL.of_below hB hlt)).mono ?_; rintro e w4 ⟨rfl, hB4⟩))
    go_ret
    exact ⟨rfl, hB.trans (hB4.mono hB.size)⟩
end Go.Proofs.YtegjphfkkafomaaDoor.Sha
