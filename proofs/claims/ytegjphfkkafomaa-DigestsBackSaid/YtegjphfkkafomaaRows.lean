/-
  No cell of these rows narrows 'for every input' (looked for: loops, veiled, ifaces, maps, wideKeys, modest, calm, conditions, laid).
  DERIVED. THE GIVEN ROWS OF THIS SEAT. 3 by the template 'for every input the law returns true; each argument reads behind the call as it read before'; 0 by the template 'total and deterministic' (their statements: YtegjphfkkafomaaTotals.lean).
  GIVEN WITH THE SEED: the statements are not yours to turn. If you find one false, say at which input.
  Laid BY PROGRAM, IN A SANDBOX (cutbox-rows.mjs): the forced cells as the released guide's own fill.sh prints them over the translation 446b7220f2b3e302… (all of the seat's roots in one cut). By AI agents, Wed Nov 11 2026. No macro, syntax, notation, axiom, sorry.
-/
import Derived.Test.YtegjphfkkafomaaChecked
import GoSem.Claim
import GoSem.ClaimJoined
import GoSem.ClaimMapViews
import Derived.JoinedTies
import Derived.KernelRfl
namespace Go.Proofs.Ytegjphfkkafomaa
/- THE CELL 'sum', in the pinned program and in every row, IS THE sha256 OF THE DUMP (.gsa) THAT YtegjphfkkafomaaProg.lean LOADS. Nothing in Lean hashes anything: it is a label: what it is worth is what the hold of that sum in a sandbox is worth. -/
noncomputable def Try.pinned : Pinned := { name := "ytegjphfkkafomaa", sum := "446b7220f2b3e302d0282b2f6e6fedff67eca4590e23d6c322e047deb178e41b", checked := Try.checked }
namespace Rows
def none {H : Type} : Left H := { results := [], args := [] }

/-- 'lighterlaw05.DigestsForm': WHATEVER THE INPUT: true; the input reads as it did. -/
def digestsFormSpec : ChangeSpec := { name := "digestsForm", fn := fun _ => fun
  | [d] => { results := [.lit (.bool true)], args := [d] }
  | _ => none }
def digestsFormRow : OpenClaim := { program := "ytegjphfkkafomaa", sum := "446b7220f2b3e302d0282b2f6e6fedff67eca4590e23d6c322e047deb178e41b", func := "lighter/lighterlaw05.DigestsForm", spec := "digestsForm", inPlace := ["internal/abi.NoEscape", "internal/bytealg.IndexByteString", "internal/bytealg.IndexString"], named := ["internal/bytealg.MaxLen"], apart := false }
def DigestsFormSaid : Prop := digestsFormRow.holds Try.pinned (OpenSpec.ofChange digestsFormSpec)

/-- ITS FALSE NEIGHBOUR: 'it returns false'. Refute it at one input. -/
def digestsFormWrong : ChangeSpec := { name := "digestsForm", fn := fun _ => fun
  | [d] => { results := [.lit (.bool false)], args := [d] }
  | _ => none }
def DigestsFormWrongFalsely : Prop := digestsFormRow.holds Try.pinned (OpenSpec.ofChange digestsFormWrong)

/-- 'lighterlaw05.DigestsTell': WHATEVER THE INPUT: true; the input reads as it did. -/
def digestsTellSpec : ChangeSpec := { name := "digestsTell", fn := fun _ => fun
  | [d1, d2, d3] => { results := [.lit (.bool true)], args := [d1, d2, d3] }
  | _ => none }
def digestsTellRow : OpenClaim := { program := "ytegjphfkkafomaa", sum := "446b7220f2b3e302d0282b2f6e6fedff67eca4590e23d6c322e047deb178e41b", func := "lighter/lighterlaw05.DigestsTell", spec := "digestsTell", inPlace := ["internal/abi.NoEscape", "internal/bytealg.IndexByteString", "internal/bytealg.IndexString", "internal/bytealg.abigen_runtime_cmpstring"], named := ["internal/bytealg.MaxLen"], apart := false }
def DigestsTellSaid : Prop := digestsTellRow.holds Try.pinned (OpenSpec.ofChange digestsTellSpec)

/-- ITS FALSE NEIGHBOUR: 'it returns false'. Refute it at one input. -/
def digestsTellWrong : ChangeSpec := { name := "digestsTell", fn := fun _ => fun
  | [d1, d2, d3] => { results := [.lit (.bool false)], args := [d1, d2, d3] }
  | _ => none }
def DigestsTellWrongFalsely : Prop := digestsTellRow.holds Try.pinned (OpenSpec.ofChange digestsTellWrong)

/-- 'lighterlaw05.DigestsBack': WHATEVER THE INPUT: true; the input reads as it did. -/
def digestsBackSpec : ChangeSpec := { name := "digestsBack", fn := fun _ => fun
  | [d1, d2, d3] => { results := [.lit (.bool true)], args := [d1, d2, d3] }
  | _ => none }
def digestsBackRow : OpenClaim := { program := "ytegjphfkkafomaa", sum := "446b7220f2b3e302d0282b2f6e6fedff67eca4590e23d6c322e047deb178e41b", func := "lighter/lighterlaw05.DigestsBack", spec := "digestsBack", inPlace := ["internal/abi.NoEscape", "internal/bytealg.IndexByteString", "internal/bytealg.IndexString", "internal/bytealg.abigen_runtime_cmpstring"], named := ["internal/bytealg.MaxLen"], apart := false }
def DigestsBackSaid : Prop := digestsBackRow.holds Try.pinned (OpenSpec.ofChange digestsBackSpec)

/-- ITS FALSE NEIGHBOUR: 'it returns false'. Refute it at one input. -/
def digestsBackWrong : ChangeSpec := { name := "digestsBack", fn := fun _ => fun
  | [d1, d2, d3] => { results := [.lit (.bool false)], args := [d1, d2, d3] }
  | _ => none }
def DigestsBackWrongFalsely : Prop := digestsBackRow.holds Try.pinned (OpenSpec.ofChange digestsBackWrong)

/- THE SECOND FORM. 'bulk': how many values and letters a reading holds, each counted each time it is reached (what is shared counts as often as it is met; a slice's spare places count too). A statement '..UptoSaid' is the law's where the arguments, and the package variables that the reading takes, are together of bulk at most 1048576: NARROWER than '..Said'. Prove '..Said' where nothing that the law and all that it calls make is longer than what came in: it says more and counts as full. Else prove '..UptoSaid'. A law counts once. -/
mutual
def uptoBulk {H : Type} : DataW H → Nat
  | .lit (.string bytes) => bytes.length + 1
  | .lit _ => 1
  | .nil => 1
  | .ptr d => uptoBulk d + 1
  | .slice elems spare => uptoBulkAll elems + uptoBulkAll spare + 1
  | .agg parts => uptoBulkAll parts + 1
  | .iface _ d => uptoBulk d + 1
  | .map entries => uptoBulkEntries entries + 1
  | .held _ => 1
def uptoBulkAll {H : Type} : List (DataW H) → Nat
  | [] => 0
  | d :: r => uptoBulk d + uptoBulkAll r
def uptoBulkEntries {H : Type} : List (Lit × DataW H) → Nat
  | [] => 0
  | x :: r => uptoBulkEntry x + uptoBulkEntries r
def uptoBulkEntry {H : Type} : Lit × DataW H → Nat
  | (.string bytes, d) => bytes.length + uptoBulk d + 1
  | (_, d) => uptoBulk d + 1
 end
def uptoSmall : (H : Type) → List (DataW H) → Bool := fun _ ds => decide (uptoBulkAll ds ≤ 1048576)
def OpenSpec.upto (s : _root_.Go.ChangeSpec) : _root_.Go.OpenSpec := { _root_.Go.OpenSpec.ofChange s with cond := some uptoSmall }

/-- 'lighterlaw05.DigestsForm', WHERE WHAT IT READS IS OF BULK AT MOST 1048576: true; the input reads as it did. -/
def digestsFormUptoRow : OpenClaim := { program := "ytegjphfkkafomaa", sum := "446b7220f2b3e302d0282b2f6e6fedff67eca4590e23d6c322e047deb178e41b", func := "lighter/lighterlaw05.DigestsForm", spec := "digestsForm", inPlace := ["internal/abi.NoEscape", "internal/bytealg.IndexByteString", "internal/bytealg.IndexString"], named := ["internal/bytealg.MaxLen"], apart := false, narrowed := true }
def DigestsFormUptoSaid : Prop := digestsFormUptoRow.holds Try.pinned (OpenSpec.upto digestsFormSpec)

/-- 'lighterlaw05.DigestsTell', WHERE WHAT IT READS IS OF BULK AT MOST 1048576: true; the input reads as it did. -/
def digestsTellUptoRow : OpenClaim := { program := "ytegjphfkkafomaa", sum := "446b7220f2b3e302d0282b2f6e6fedff67eca4590e23d6c322e047deb178e41b", func := "lighter/lighterlaw05.DigestsTell", spec := "digestsTell", inPlace := ["internal/abi.NoEscape", "internal/bytealg.IndexByteString", "internal/bytealg.IndexString", "internal/bytealg.abigen_runtime_cmpstring"], named := ["internal/bytealg.MaxLen"], apart := false, narrowed := true }
def DigestsTellUptoSaid : Prop := digestsTellUptoRow.holds Try.pinned (OpenSpec.upto digestsTellSpec)

/-- 'lighterlaw05.DigestsBack', WHERE WHAT IT READS IS OF BULK AT MOST 1048576: true; the input reads as it did. -/
def digestsBackUptoRow : OpenClaim := { program := "ytegjphfkkafomaa", sum := "446b7220f2b3e302d0282b2f6e6fedff67eca4590e23d6c322e047deb178e41b", func := "lighter/lighterlaw05.DigestsBack", spec := "digestsBack", inPlace := ["internal/abi.NoEscape", "internal/bytealg.IndexByteString", "internal/bytealg.IndexString", "internal/bytealg.abigen_runtime_cmpstring"], named := ["internal/bytealg.MaxLen"], apart := false, narrowed := true }
def DigestsBackUptoSaid : Prop := digestsBackUptoRow.holds Try.pinned (OpenSpec.upto digestsBackSpec)

end Rows
end Go.Proofs.Ytegjphfkkafomaa
