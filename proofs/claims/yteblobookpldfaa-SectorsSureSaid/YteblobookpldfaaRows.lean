/-
  No cell of these rows narrows 'for every input' (looked for: loops, veiled, ifaces, maps, wideKeys, modest, calm, conditions, laid).
  DERIVED. THE GIVEN ROWS OF THIS SEAT. 4 by the template 'for every input the law returns true; each argument reads behind the call as it read before'; 0 by the template 'total and deterministic' (their statements: YteblobookpldfaaTotals.lean).
  GIVEN WITH THE SEED: the statements are not yours to turn. If you find one false, say at which input.
  Laid BY PROGRAM, IN A SANDBOX (cutbox-rows.mjs): the forced cells as the released guide's own fill.sh prints them over the translation 291c6aebeab0be39… (all of the seat's roots in one cut). By AI agents, Wed Nov 11 2026. No macro, syntax, notation, axiom, sorry.
-/
import Derived.Test.YteblobookpldfaaChecked
import GoSem.Claim
import GoSem.ClaimJoined
import GoSem.ClaimMapViews
import Derived.JoinedTies
import Derived.KernelRfl
namespace Go.Proofs.Yteblobookpldfaa
/- THE CELL 'sum', in the pinned program and in every row, IS THE sha256 OF THE DUMP (.gsa) THAT YteblobookpldfaaProg.lean LOADS. Nothing in Lean hashes anything: it is a label: what it is worth is what the hold of that sum in a sandbox is worth. -/
noncomputable def Try.pinned : Pinned := { name := "yteblobookpldfaa", sum := "291c6aebeab0be391d45c0bd854a0b30db50a04cbbc1b1f4913b7fb0761ff5aa", checked := Try.checked }
namespace Rows
def none {H : Type} : Left H := { results := [], args := [] }

/-- 'lighterlaw06.SectorsPlay': WHATEVER THE INPUT: true; the input reads as it did. -/
def sectorsPlaySpec : ChangeSpec := { name := "sectorsPlay", fn := fun _ => fun
  | [d1, d2] => { results := [.lit (.bool true)], args := [d1, d2] }
  | _ => none }
def sectorsPlayRow : OpenClaim := { program := "yteblobookpldfaa", sum := "291c6aebeab0be391d45c0bd854a0b30db50a04cbbc1b1f4913b7fb0761ff5aa", func := "lighter/lighterlaw06.SectorsPlay", spec := "sectorsPlay", inPlace := ["internal/abi.NoEscape", "internal/bytealg.MakeNoZero"], unfollowed := true, recurses := true, apart := false }
def SectorsPlaySaid : Prop := sectorsPlayRow.holds Try.pinned (OpenSpec.ofChange sectorsPlaySpec)

/-- ITS FALSE NEIGHBOUR: 'it returns false'. Refute it at one input. -/
def sectorsPlayWrong : ChangeSpec := { name := "sectorsPlay", fn := fun _ => fun
  | [d1, d2] => { results := [.lit (.bool false)], args := [d1, d2] }
  | _ => none }
def SectorsPlayWrongFalsely : Prop := sectorsPlayRow.holds Try.pinned (OpenSpec.ofChange sectorsPlayWrong)

/-- 'lighterlaw06.SectorsNone': WHATEVER THE INPUT: true; the input reads as it did. -/
def sectorsNoneSpec : ChangeSpec := { name := "sectorsNone", fn := fun _ => fun
  | [d] => { results := [.lit (.bool true)], args := [d] }
  | _ => none }
def sectorsNoneRow : OpenClaim := { program := "yteblobookpldfaa", sum := "291c6aebeab0be391d45c0bd854a0b30db50a04cbbc1b1f4913b7fb0761ff5aa", func := "lighter/lighterlaw06.SectorsNone", spec := "sectorsNone", inPlace := ["internal/abi.NoEscape", "internal/bytealg.MakeNoZero"], unfollowed := true, recurses := true, apart := false }
def SectorsNoneSaid : Prop := sectorsNoneRow.holds Try.pinned (OpenSpec.ofChange sectorsNoneSpec)

/-- ITS FALSE NEIGHBOUR: 'it returns false'. Refute it at one input. -/
def sectorsNoneWrong : ChangeSpec := { name := "sectorsNone", fn := fun _ => fun
  | [d] => { results := [.lit (.bool false)], args := [d] }
  | _ => none }
def SectorsNoneWrongFalsely : Prop := sectorsNoneRow.holds Try.pinned (OpenSpec.ofChange sectorsNoneWrong)

/-- 'lighterlaw06.SectorsFail': WHATEVER THE INPUT: true; the input reads as it did. -/
def sectorsFailSpec : ChangeSpec := { name := "sectorsFail", fn := fun _ => fun
  | [d1, d2, d3] => { results := [.lit (.bool true)], args := [d1, d2, d3] }
  | _ => none }
def sectorsFailRow : OpenClaim := { program := "yteblobookpldfaa", sum := "291c6aebeab0be391d45c0bd854a0b30db50a04cbbc1b1f4913b7fb0761ff5aa", func := "lighter/lighterlaw06.SectorsFail", spec := "sectorsFail", inPlace := ["internal/abi.NoEscape", "internal/bytealg.MakeNoZero"], unfollowed := true, recurses := true, apart := false }
def SectorsFailSaid : Prop := sectorsFailRow.holds Try.pinned (OpenSpec.ofChange sectorsFailSpec)

/-- ITS FALSE NEIGHBOUR: 'it returns false'. Refute it at one input. -/
def sectorsFailWrong : ChangeSpec := { name := "sectorsFail", fn := fun _ => fun
  | [d1, d2, d3] => { results := [.lit (.bool false)], args := [d1, d2, d3] }
  | _ => none }
def SectorsFailWrongFalsely : Prop := sectorsFailRow.holds Try.pinned (OpenSpec.ofChange sectorsFailWrong)

/-- 'lighterlaw06.SectorsSure': WHATEVER THE INPUT: true; the input reads as it did. -/
def sectorsSureSpec : ChangeSpec := { name := "sectorsSure", fn := fun _ => fun
  | [d1, d2] => { results := [.lit (.bool true)], args := [d1, d2] }
  | _ => none }
def sectorsSureRow : OpenClaim := { program := "yteblobookpldfaa", sum := "291c6aebeab0be391d45c0bd854a0b30db50a04cbbc1b1f4913b7fb0761ff5aa", func := "lighter/lighterlaw06.SectorsSure", spec := "sectorsSure", inPlace := ["internal/abi.NoEscape", "internal/bytealg.MakeNoZero"], unfollowed := true, recurses := true, apart := false }
def SectorsSureSaid : Prop := sectorsSureRow.holds Try.pinned (OpenSpec.ofChange sectorsSureSpec)

/-- ITS FALSE NEIGHBOUR: 'it returns false'. Refute it at one input. -/
def sectorsSureWrong : ChangeSpec := { name := "sectorsSure", fn := fun _ => fun
  | [d1, d2] => { results := [.lit (.bool false)], args := [d1, d2] }
  | _ => none }
def SectorsSureWrongFalsely : Prop := sectorsSureRow.holds Try.pinned (OpenSpec.ofChange sectorsSureWrong)

/- THE SECOND FORM. 'bulk': how many values and letters a reading holds, each counted each time it is reached (what is shared counts as often as it is met; a slice's spare places count too). A statement '..UptoSaid' is the law's where the arguments, and the package variables that the reading takes, are together of bulk at most 1048576: NARROWER than '..Said'. Prove '..Said' where nothing that the law and all that it calls make is longer than what came in: it says more and counts as full. Else prove '..UptoSaid'. A law counts once. -/
mutual
def uptoBulk {H : Type} : DataW H → Nat
  | .lit (.string bytes) => bytes.length + 1
  | .lit _ => 1
  | .nil => 1
  | .ptr d => uptoBulk d + 1
  | .slice elems spare => uptoBulkAll elems + uptoBulkAll spare + 1
  | .agg parts => uptoBulkAll parts + 1
  | .iface _ d => uptoBulk d + 1
  | .map entries => uptoBulkEntries entries + 1
  | .held _ => 1
def uptoBulkAll {H : Type} : List (DataW H) → Nat
  | [] => 0
  | d :: r => uptoBulk d + uptoBulkAll r
def uptoBulkEntries {H : Type} : List (Lit × DataW H) → Nat
  | [] => 0
  | x :: r => uptoBulkEntry x + uptoBulkEntries r
def uptoBulkEntry {H : Type} : Lit × DataW H → Nat
  | (.string bytes, d) => bytes.length + uptoBulk d + 1
  | (_, d) => uptoBulk d + 1
 end
def uptoSmall : (H : Type) → List (DataW H) → Bool := fun _ ds => decide (uptoBulkAll ds ≤ 1048576)
def OpenSpec.upto (s : _root_.Go.ChangeSpec) : _root_.Go.OpenSpec := { _root_.Go.OpenSpec.ofChange s with cond := some uptoSmall }

/-- 'lighterlaw06.SectorsPlay', WHERE WHAT IT READS IS OF BULK AT MOST 1048576: true; the input reads as it did. -/
def sectorsPlayUptoRow : OpenClaim := { program := "yteblobookpldfaa", sum := "291c6aebeab0be391d45c0bd854a0b30db50a04cbbc1b1f4913b7fb0761ff5aa", func := "lighter/lighterlaw06.SectorsPlay", spec := "sectorsPlay", inPlace := ["internal/abi.NoEscape", "internal/bytealg.MakeNoZero"], unfollowed := true, recurses := true, apart := false, narrowed := true }
def SectorsPlayUptoSaid : Prop := sectorsPlayUptoRow.holds Try.pinned (OpenSpec.upto sectorsPlaySpec)

/-- 'lighterlaw06.SectorsNone', WHERE WHAT IT READS IS OF BULK AT MOST 1048576: true; the input reads as it did. -/
def sectorsNoneUptoRow : OpenClaim := { program := "yteblobookpldfaa", sum := "291c6aebeab0be391d45c0bd854a0b30db50a04cbbc1b1f4913b7fb0761ff5aa", func := "lighter/lighterlaw06.SectorsNone", spec := "sectorsNone", inPlace := ["internal/abi.NoEscape", "internal/bytealg.MakeNoZero"], unfollowed := true, recurses := true, apart := false, narrowed := true }
def SectorsNoneUptoSaid : Prop := sectorsNoneUptoRow.holds Try.pinned (OpenSpec.upto sectorsNoneSpec)

/-- 'lighterlaw06.SectorsFail', WHERE WHAT IT READS IS OF BULK AT MOST 1048576: true; the input reads as it did. -/
def sectorsFailUptoRow : OpenClaim := { program := "yteblobookpldfaa", sum := "291c6aebeab0be391d45c0bd854a0b30db50a04cbbc1b1f4913b7fb0761ff5aa", func := "lighter/lighterlaw06.SectorsFail", spec := "sectorsFail", inPlace := ["internal/abi.NoEscape", "internal/bytealg.MakeNoZero"], unfollowed := true, recurses := true, apart := false, narrowed := true }
def SectorsFailUptoSaid : Prop := sectorsFailUptoRow.holds Try.pinned (OpenSpec.upto sectorsFailSpec)

/-- 'lighterlaw06.SectorsSure', WHERE WHAT IT READS IS OF BULK AT MOST 1048576: true; the input reads as it did. -/
def sectorsSureUptoRow : OpenClaim := { program := "yteblobookpldfaa", sum := "291c6aebeab0be391d45c0bd854a0b30db50a04cbbc1b1f4913b7fb0761ff5aa", func := "lighter/lighterlaw06.SectorsSure", spec := "sectorsSure", inPlace := ["internal/abi.NoEscape", "internal/bytealg.MakeNoZero"], unfollowed := true, recurses := true, apart := false, narrowed := true }
def SectorsSureUptoSaid : Prop := sectorsSureUptoRow.holds Try.pinned (OpenSpec.upto sectorsSureSpec)

end Rows
end Go.Proofs.Yteblobookpldfaa
