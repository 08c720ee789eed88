/-
  No cell of these rows narrows 'for every input' (looked for: loops, veiled, ifaces, maps, wideKeys, modest, calm, conditions, laid).
  DERIVED. THE GIVEN ROWS OF THIS SEAT. 4 by the template 'for every input the law returns true; each argument reads behind the call as it read before'; 0 by the template 'total and deterministic' (their statements: YtihlaamcepgipaaTotals.lean).
  GIVEN WITH THE SEED: the statements are not yours to turn. If you find one false, say at which input.
  Laid BY PROGRAM, IN A SANDBOX (cutbox-rows.mjs): the forced cells as the released guide's own fill.sh prints them over the translation b7357c97ca1941f9… (all of the seat's roots in one cut). By AI agents, Wed Nov 11 2026. No macro, syntax, notation, axiom, sorry.
-/
import Derived.Test.YtihlaamcepgipaaChecked
import GoSem.Claim
import GoSem.ClaimJoined
import GoSem.ClaimMapViews
import Derived.JoinedTies
import Derived.KernelRfl
namespace Go.Proofs.Ytihlaamcepgipaa
/- THE CELL 'sum', in the pinned program and in every row, IS THE sha256 OF THE DUMP (.gsa) THAT YtihlaamcepgipaaProg.lean LOADS. Nothing in Lean hashes anything: it is a label: what it is worth is what the hold of that sum in a sandbox is worth. -/
noncomputable def Try.pinned : Pinned := { name := "ytihlaamcepgipaa", sum := "b7357c97ca1941f9a9e02fa7ea403853141073833288f6eb52fddb6d7d360eac", checked := Try.checked }
namespace Rows
def none {H : Type} : Left H := { results := [], args := [] }

/-- 'lighterlaw01.NumsBlocks': WHATEVER THE INPUT: true; the input reads as it did. -/
def numsBlocksSpec : ChangeSpec := { name := "numsBlocks", fn := fun _ => fun
  | [d1, d2] => { results := [.lit (.bool true)], args := [d1, d2] }
  | _ => none }
def numsBlocksRow : OpenClaim := { program := "ytihlaamcepgipaa", sum := "b7357c97ca1941f9a9e02fa7ea403853141073833288f6eb52fddb6d7d360eac", func := "lighter/lighterlaw01.NumsBlocks", spec := "numsBlocks", named := ["math/bits.divideError", "math/bits.overflowError"], apart := false }
def NumsBlocksSaid : Prop := numsBlocksRow.holds Try.pinned (OpenSpec.ofChange numsBlocksSpec)

/-- ITS FALSE NEIGHBOUR: 'it returns false'. Refute it at one input. -/
def numsBlocksWrong : ChangeSpec := { name := "numsBlocks", fn := fun _ => fun
  | [d1, d2] => { results := [.lit (.bool false)], args := [d1, d2] }
  | _ => none }
def NumsBlocksWrongFalsely : Prop := numsBlocksRow.holds Try.pinned (OpenSpec.ofChange numsBlocksWrong)

/-- 'lighterlaw01.NumsTell': WHATEVER THE INPUT: true; the input reads as it did. -/
def numsTellSpec : ChangeSpec := { name := "numsTell", fn := fun _ => fun
  | [d1, d2] => { results := [.lit (.bool true)], args := [d1, d2] }
  | _ => none }
def numsTellRow : OpenClaim := { program := "ytihlaamcepgipaa", sum := "b7357c97ca1941f9a9e02fa7ea403853141073833288f6eb52fddb6d7d360eac", func := "lighter/lighterlaw01.NumsTell", spec := "numsTell", recurses := true, named := ["math/bits.divideError", "math/bits.overflowError"], apart := false }
def NumsTellSaid : Prop := numsTellRow.holds Try.pinned (OpenSpec.ofChange numsTellSpec)

/-- ITS FALSE NEIGHBOUR: 'it returns false'. Refute it at one input. -/
def numsTellWrong : ChangeSpec := { name := "numsTell", fn := fun _ => fun
  | [d1, d2] => { results := [.lit (.bool false)], args := [d1, d2] }
  | _ => none }
def NumsTellWrongFalsely : Prop := numsTellRow.holds Try.pinned (OpenSpec.ofChange numsTellWrong)

/-- 'lighterlaw01.NumsSum': WHATEVER THE INPUT: true; the input reads as it did. -/
def numsSumSpec : ChangeSpec := { name := "numsSum", fn := fun _ => fun
  | [d] => { results := [.lit (.bool true)], args := [d] }
  | _ => none }
def numsSumRow : OpenClaim := { program := "ytihlaamcepgipaa", sum := "b7357c97ca1941f9a9e02fa7ea403853141073833288f6eb52fddb6d7d360eac", func := "lighter/lighterlaw01.NumsSum", spec := "numsSum", named := ["math/bits.divideError", "math/bits.overflowError"], apart := false }
def NumsSumSaid : Prop := numsSumRow.holds Try.pinned (OpenSpec.ofChange numsSumSpec)

/-- ITS FALSE NEIGHBOUR: 'it returns false'. Refute it at one input. -/
def numsSumWrong : ChangeSpec := { name := "numsSum", fn := fun _ => fun
  | [d] => { results := [.lit (.bool false)], args := [d] }
  | _ => none }
def NumsSumWrongFalsely : Prop := numsSumRow.holds Try.pinned (OpenSpec.ofChange numsSumWrong)

/-- 'lighterlaw01.NumsOrder': WHATEVER THE INPUT: true; the input reads as it did. -/
def numsOrderSpec : ChangeSpec := { name := "numsOrder", fn := fun _ => fun
  | [d1, d2] => { results := [.lit (.bool true)], args := [d1, d2] }
  | _ => none }
def numsOrderRow : OpenClaim := { program := "ytihlaamcepgipaa", sum := "b7357c97ca1941f9a9e02fa7ea403853141073833288f6eb52fddb6d7d360eac", func := "lighter/lighterlaw01.NumsOrder", spec := "numsOrder", named := ["math/bits.divideError", "math/bits.overflowError"], apart := false }
def NumsOrderSaid : Prop := numsOrderRow.holds Try.pinned (OpenSpec.ofChange numsOrderSpec)

/-- ITS FALSE NEIGHBOUR: 'it returns false'. Refute it at one input. -/
def numsOrderWrong : ChangeSpec := { name := "numsOrder", fn := fun _ => fun
  | [d1, d2] => { results := [.lit (.bool false)], args := [d1, d2] }
  | _ => none }
def NumsOrderWrongFalsely : Prop := numsOrderRow.holds Try.pinned (OpenSpec.ofChange numsOrderWrong)

/- THE SECOND FORM. 'bulk': how many values and letters a reading holds, each counted each time it is reached (what is shared counts as often as it is met; a slice's spare places count too). A statement '..UptoSaid' is the law's where the arguments, and the package variables that the reading takes, are together of bulk at most 1048576: NARROWER than '..Said'. Prove '..Said' where nothing that the law and all that it calls make is longer than what came in: it says more and counts as full. Else prove '..UptoSaid'. A law counts once. -/
mutual
def uptoBulk {H : Type} : DataW H → Nat
  | .lit (.string bytes) => bytes.length + 1
  | .lit _ => 1
  | .nil => 1
  | .ptr d => uptoBulk d + 1
  | .slice elems spare => uptoBulkAll elems + uptoBulkAll spare + 1
  | .agg parts => uptoBulkAll parts + 1
  | .iface _ d => uptoBulk d + 1
  | .map entries => uptoBulkEntries entries + 1
  | .held _ => 1
def uptoBulkAll {H : Type} : List (DataW H) → Nat
  | [] => 0
  | d :: r => uptoBulk d + uptoBulkAll r
def uptoBulkEntries {H : Type} : List (Lit × DataW H) → Nat
  | [] => 0
  | x :: r => uptoBulkEntry x + uptoBulkEntries r
def uptoBulkEntry {H : Type} : Lit × DataW H → Nat
  | (.string bytes, d) => bytes.length + uptoBulk d + 1
  | (_, d) => uptoBulk d + 1
 end
def uptoSmall : (H : Type) → List (DataW H) → Bool := fun _ ds => decide (uptoBulkAll ds ≤ 1048576)
def OpenSpec.upto (s : _root_.Go.ChangeSpec) : _root_.Go.OpenSpec := { _root_.Go.OpenSpec.ofChange s with cond := some uptoSmall }

/-- 'lighterlaw01.NumsBlocks', WHERE WHAT IT READS IS OF BULK AT MOST 1048576: true; the input reads as it did. -/
def numsBlocksUptoRow : OpenClaim := { program := "ytihlaamcepgipaa", sum := "b7357c97ca1941f9a9e02fa7ea403853141073833288f6eb52fddb6d7d360eac", func := "lighter/lighterlaw01.NumsBlocks", spec := "numsBlocks", named := ["math/bits.divideError", "math/bits.overflowError"], apart := false, narrowed := true }
def NumsBlocksUptoSaid : Prop := numsBlocksUptoRow.holds Try.pinned (OpenSpec.upto numsBlocksSpec)

/-- 'lighterlaw01.NumsTell', WHERE WHAT IT READS IS OF BULK AT MOST 1048576: true; the input reads as it did. -/
def numsTellUptoRow : OpenClaim := { program := "ytihlaamcepgipaa", sum := "b7357c97ca1941f9a9e02fa7ea403853141073833288f6eb52fddb6d7d360eac", func := "lighter/lighterlaw01.NumsTell", spec := "numsTell", recurses := true, named := ["math/bits.divideError", "math/bits.overflowError"], apart := false, narrowed := true }
def NumsTellUptoSaid : Prop := numsTellUptoRow.holds Try.pinned (OpenSpec.upto numsTellSpec)

/-- 'lighterlaw01.NumsSum', WHERE WHAT IT READS IS OF BULK AT MOST 1048576: true; the input reads as it did. -/
def numsSumUptoRow : OpenClaim := { program := "ytihlaamcepgipaa", sum := "b7357c97ca1941f9a9e02fa7ea403853141073833288f6eb52fddb6d7d360eac", func := "lighter/lighterlaw01.NumsSum", spec := "numsSum", named := ["math/bits.divideError", "math/bits.overflowError"], apart := false, narrowed := true }
def NumsSumUptoSaid : Prop := numsSumUptoRow.holds Try.pinned (OpenSpec.upto numsSumSpec)

/-- 'lighterlaw01.NumsOrder', WHERE WHAT IT READS IS OF BULK AT MOST 1048576: true; the input reads as it did. -/
def numsOrderUptoRow : OpenClaim := { program := "ytihlaamcepgipaa", sum := "b7357c97ca1941f9a9e02fa7ea403853141073833288f6eb52fddb6d7d360eac", func := "lighter/lighterlaw01.NumsOrder", spec := "numsOrder", named := ["math/bits.divideError", "math/bits.overflowError"], apart := false, narrowed := true }
def NumsOrderUptoSaid : Prop := numsOrderUptoRow.holds Try.pinned (OpenSpec.upto numsOrderSpec)

end Rows
end Go.Proofs.Ytihlaamcepgipaa
