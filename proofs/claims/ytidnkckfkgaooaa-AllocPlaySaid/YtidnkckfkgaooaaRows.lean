/-
  No cell of these rows narrows 'for every input' (looked for: loops, veiled, ifaces, maps, wideKeys, modest, calm, conditions, laid).
  DERIVED. THE GIVEN ROWS OF THIS SEAT. 9 by the template 'for every input the law returns true; each argument reads behind the call as it read before'; 0 by the template 'total and deterministic' (their statements: YtidnkckfkgaooaaTotals.lean).
  GIVEN WITH THE SEED: the statements are not yours to turn. If you find one false, say at which input.
  Laid BY PROGRAM, IN A SANDBOX (cutbox-rows.mjs): the forced cells as the released guide's own fill.sh prints them over the translation a7ca0f1610ab520d… (all of the seat's roots in one cut). By AI agents, Wed Nov 11 2026. No macro, syntax, notation, axiom, sorry.
-/
import Derived.Test.YtidnkckfkgaooaaChecked
import GoSem.Claim
import GoSem.ClaimJoined
import GoSem.ClaimMapViews
import Derived.JoinedTies
import Derived.KernelRfl
namespace Go.Proofs.Ytidnkckfkgaooaa
/- THE CELL 'sum', in the pinned program and in every row, IS THE sha256 OF THE DUMP (.gsa) THAT YtidnkckfkgaooaaProg.lean LOADS. Nothing in Lean hashes anything: it is a label: what it is worth is what the hold of that sum in a sandbox is worth. -/
noncomputable def Try.pinned : Pinned := { name := "ytidnkckfkgaooaa", sum := "a7ca0f1610ab520d2cc41d550d8baa0803f31bcf50f6df781622aca5c051b2d0", checked := Try.checked }
namespace Rows
def none {H : Type} : Left H := { results := [], args := [] }

/-- 'lighterlaw02.BitsNumber': WHATEVER THE INPUT: true; the input reads as it did. -/
def bitsNumberSpec : ChangeSpec := { name := "bitsNumber", fn := fun _ => fun
  | [d1, d2, d3] => { results := [.lit (.bool true)], args := [d1, d2, d3] }
  | _ => none }
def bitsNumberRow : OpenClaim := { program := "ytidnkckfkgaooaa", sum := "a7ca0f1610ab520d2cc41d550d8baa0803f31bcf50f6df781622aca5c051b2d0", func := "lighter/lighterlaw02.BitsNumber", spec := "bitsNumber", unfollowed := true, recurses := true, apart := false }
def BitsNumberSaid : Prop := bitsNumberRow.holds Try.pinned (OpenSpec.ofChange bitsNumberSpec)

/-- ITS FALSE NEIGHBOUR: 'it returns false'. Refute it at one input. -/
def bitsNumberWrong : ChangeSpec := { name := "bitsNumber", fn := fun _ => fun
  | [d1, d2, d3] => { results := [.lit (.bool false)], args := [d1, d2, d3] }
  | _ => none }
def BitsNumberWrongFalsely : Prop := bitsNumberRow.holds Try.pinned (OpenSpec.ofChange bitsNumberWrong)

/-- 'lighterlaw02.BitsMap': WHATEVER THE INPUT: true; the input reads as it did. -/
def bitsMapSpec : ChangeSpec := { name := "bitsMap", fn := fun _ => fun
  | [d1, d2, d3] => { results := [.lit (.bool true)], args := [d1, d2, d3] }
  | _ => none }
def bitsMapRow : OpenClaim := { program := "ytidnkckfkgaooaa", sum := "a7ca0f1610ab520d2cc41d550d8baa0803f31bcf50f6df781622aca5c051b2d0", func := "lighter/lighterlaw02.BitsMap", spec := "bitsMap", unfollowed := true, recurses := true, apart := false }
def BitsMapSaid : Prop := bitsMapRow.holds Try.pinned (OpenSpec.ofChange bitsMapSpec)

/-- ITS FALSE NEIGHBOUR: 'it returns false'. Refute it at one input. -/
def bitsMapWrong : ChangeSpec := { name := "bitsMap", fn := fun _ => fun
  | [d1, d2, d3] => { results := [.lit (.bool false)], args := [d1, d2, d3] }
  | _ => none }
def BitsMapWrongFalsely : Prop := bitsMapRow.holds Try.pinned (OpenSpec.ofChange bitsMapWrong)

/-- 'lighterlaw02.BitsBack': WHATEVER THE INPUT: true; the input reads as it did. -/
def bitsBackSpec : ChangeSpec := { name := "bitsBack", fn := fun _ => fun
  | [d1, d2, d3] => { results := [.lit (.bool true)], args := [d1, d2, d3] }
  | _ => none }
def bitsBackRow : OpenClaim := { program := "ytidnkckfkgaooaa", sum := "a7ca0f1610ab520d2cc41d550d8baa0803f31bcf50f6df781622aca5c051b2d0", func := "lighter/lighterlaw02.BitsBack", spec := "bitsBack", unfollowed := true, recurses := true, apart := false }
def BitsBackSaid : Prop := bitsBackRow.holds Try.pinned (OpenSpec.ofChange bitsBackSpec)

/-- ITS FALSE NEIGHBOUR: 'it returns false'. Refute it at one input. -/
def bitsBackWrong : ChangeSpec := { name := "bitsBack", fn := fun _ => fun
  | [d1, d2, d3] => { results := [.lit (.bool false)], args := [d1, d2, d3] }
  | _ => none }
def BitsBackWrongFalsely : Prop := bitsBackRow.holds Try.pinned (OpenSpec.ofChange bitsBackWrong)

/-- 'lighterlaw02.BitsRun': WHATEVER THE INPUT: true; the input reads as it did. -/
def bitsRunSpec : ChangeSpec := { name := "bitsRun", fn := fun _ => fun
  | [d1, d2, d3] => { results := [.lit (.bool true)], args := [d1, d2, d3] }
  | _ => none }
def bitsRunRow : OpenClaim := { program := "ytidnkckfkgaooaa", sum := "a7ca0f1610ab520d2cc41d550d8baa0803f31bcf50f6df781622aca5c051b2d0", func := "lighter/lighterlaw02.BitsRun", spec := "bitsRun", unfollowed := true, recurses := true, apart := false }
def BitsRunSaid : Prop := bitsRunRow.holds Try.pinned (OpenSpec.ofChange bitsRunSpec)

/-- ITS FALSE NEIGHBOUR: 'it returns false'. Refute it at one input. -/
def bitsRunWrong : ChangeSpec := { name := "bitsRun", fn := fun _ => fun
  | [d1, d2, d3] => { results := [.lit (.bool false)], args := [d1, d2, d3] }
  | _ => none }
def BitsRunWrongFalsely : Prop := bitsRunRow.holds Try.pinned (OpenSpec.ofChange bitsRunWrong)

/-- 'lighterlaw08.AllocFirst': WHATEVER THE INPUT: true; the input reads as it did. -/
def allocFirstSpec : ChangeSpec := { name := "allocFirst", fn := fun _ => fun
  | [d1, d2] => { results := [.lit (.bool true)], args := [d1, d2] }
  | _ => none }
def allocFirstRow : OpenClaim := { program := "ytidnkckfkgaooaa", sum := "a7ca0f1610ab520d2cc41d550d8baa0803f31bcf50f6df781622aca5c051b2d0", func := "lighter/lighterlaw08.AllocFirst", spec := "allocFirst", unfollowed := true, recurses := true, apart := false }
def AllocFirstSaid : Prop := allocFirstRow.holds Try.pinned (OpenSpec.ofChange allocFirstSpec)

/-- ITS FALSE NEIGHBOUR: 'it returns false'. Refute it at one input. -/
def allocFirstWrong : ChangeSpec := { name := "allocFirst", fn := fun _ => fun
  | [d1, d2] => { results := [.lit (.bool false)], args := [d1, d2] }
  | _ => none }
def AllocFirstWrongFalsely : Prop := allocFirstRow.holds Try.pinned (OpenSpec.ofChange allocFirstWrong)

/-- 'lighterlaw08.AllocPlay': WHATEVER THE INPUT: true; the input reads as it did. -/
def allocPlaySpec : ChangeSpec := { name := "allocPlay", fn := fun _ => fun
  | [d1, d2] => { results := [.lit (.bool true)], args := [d1, d2] }
  | _ => none }
def allocPlayRow : OpenClaim := { program := "ytidnkckfkgaooaa", sum := "a7ca0f1610ab520d2cc41d550d8baa0803f31bcf50f6df781622aca5c051b2d0", func := "lighter/lighterlaw08.AllocPlay", spec := "allocPlay", unfollowed := true, recurses := true, apart := false }
def AllocPlaySaid : Prop := allocPlayRow.holds Try.pinned (OpenSpec.ofChange allocPlaySpec)

/-- ITS FALSE NEIGHBOUR: 'it returns false'. Refute it at one input. -/
def allocPlayWrong : ChangeSpec := { name := "allocPlay", fn := fun _ => fun
  | [d1, d2] => { results := [.lit (.bool false)], args := [d1, d2] }
  | _ => none }
def AllocPlayWrongFalsely : Prop := allocPlayRow.holds Try.pinned (OpenSpec.ofChange allocPlayWrong)

/-- 'lighterlaw08.AllocNone': WHATEVER THE INPUT: true; the input reads as it did. -/
def allocNoneSpec : ChangeSpec := { name := "allocNone", fn := fun _ => fun
  | [d] => { results := [.lit (.bool true)], args := [d] }
  | _ => none }
def allocNoneRow : OpenClaim := { program := "ytidnkckfkgaooaa", sum := "a7ca0f1610ab520d2cc41d550d8baa0803f31bcf50f6df781622aca5c051b2d0", func := "lighter/lighterlaw08.AllocNone", spec := "allocNone", unfollowed := true, recurses := true, apart := false }
def AllocNoneSaid : Prop := allocNoneRow.holds Try.pinned (OpenSpec.ofChange allocNoneSpec)

/-- ITS FALSE NEIGHBOUR: 'it returns false'. Refute it at one input. -/
def allocNoneWrong : ChangeSpec := { name := "allocNone", fn := fun _ => fun
  | [d] => { results := [.lit (.bool false)], args := [d] }
  | _ => none }
def AllocNoneWrongFalsely : Prop := allocNoneRow.holds Try.pinned (OpenSpec.ofChange allocNoneWrong)

/-- 'lighterlaw08.AllocOf': WHATEVER THE INPUT: true; the input reads as it did. -/
def allocOfSpec : ChangeSpec := { name := "allocOf", fn := fun _ => fun
  | [d1, d2] => { results := [.lit (.bool true)], args := [d1, d2] }
  | _ => none }
def allocOfRow : OpenClaim := { program := "ytidnkckfkgaooaa", sum := "a7ca0f1610ab520d2cc41d550d8baa0803f31bcf50f6df781622aca5c051b2d0", func := "lighter/lighterlaw08.AllocOf", spec := "allocOf", unfollowed := true, recurses := true, apart := false }
def AllocOfSaid : Prop := allocOfRow.holds Try.pinned (OpenSpec.ofChange allocOfSpec)

/-- ITS FALSE NEIGHBOUR: 'it returns false'. Refute it at one input. -/
def allocOfWrong : ChangeSpec := { name := "allocOf", fn := fun _ => fun
  | [d1, d2] => { results := [.lit (.bool false)], args := [d1, d2] }
  | _ => none }
def AllocOfWrongFalsely : Prop := allocOfRow.holds Try.pinned (OpenSpec.ofChange allocOfWrong)

/-- 'lighterlaw08.AllocApart': WHATEVER THE INPUT: true; the input reads as it did. -/
def allocApartSpec : ChangeSpec := { name := "allocApart", fn := fun _ => fun
  | [d1, d2, d3] => { results := [.lit (.bool true)], args := [d1, d2, d3] }
  | _ => none }
def allocApartRow : OpenClaim := { program := "ytidnkckfkgaooaa", sum := "a7ca0f1610ab520d2cc41d550d8baa0803f31bcf50f6df781622aca5c051b2d0", func := "lighter/lighterlaw08.AllocApart", spec := "allocApart", unfollowed := true, recurses := true, apart := false }
def AllocApartSaid : Prop := allocApartRow.holds Try.pinned (OpenSpec.ofChange allocApartSpec)

/-- ITS FALSE NEIGHBOUR: 'it returns false'. Refute it at one input. -/
def allocApartWrong : ChangeSpec := { name := "allocApart", fn := fun _ => fun
  | [d1, d2, d3] => { results := [.lit (.bool false)], args := [d1, d2, d3] }
  | _ => none }
def AllocApartWrongFalsely : Prop := allocApartRow.holds Try.pinned (OpenSpec.ofChange allocApartWrong)

/- THE SECOND FORM. 'bulk': how many values and letters a reading holds, each counted each time it is reached (what is shared counts as often as it is met; a slice's spare places count too). A statement '..UptoSaid' is the law's where the arguments, and the package variables that the reading takes, are together of bulk at most 1048576: NARROWER than '..Said'. Prove '..Said' where nothing that the law and all that it calls make is longer than what came in: it says more and counts as full. Else prove '..UptoSaid'. A law counts once. -/
mutual
def uptoBulk {H : Type} : DataW H → Nat
  | .lit (.string bytes) => bytes.length + 1
  | .lit _ => 1
  | .nil => 1
  | .ptr d => uptoBulk d + 1
  | .slice elems spare => uptoBulkAll elems + uptoBulkAll spare + 1
  | .agg parts => uptoBulkAll parts + 1
  | .iface _ d => uptoBulk d + 1
  | .map entries => uptoBulkEntries entries + 1
  | .held _ => 1
def uptoBulkAll {H : Type} : List (DataW H) → Nat
  | [] => 0
  | d :: r => uptoBulk d + uptoBulkAll r
def uptoBulkEntries {H : Type} : List (Lit × DataW H) → Nat
  | [] => 0
  | x :: r => uptoBulkEntry x + uptoBulkEntries r
def uptoBulkEntry {H : Type} : Lit × DataW H → Nat
  | (.string bytes, d) => bytes.length + uptoBulk d + 1
  | (_, d) => uptoBulk d + 1
 end
def uptoSmall : (H : Type) → List (DataW H) → Bool := fun _ ds => decide (uptoBulkAll ds ≤ 1048576)
def OpenSpec.upto (s : _root_.Go.ChangeSpec) : _root_.Go.OpenSpec := { _root_.Go.OpenSpec.ofChange s with cond := some uptoSmall }

/-- 'lighterlaw02.BitsNumber', WHERE WHAT IT READS IS OF BULK AT MOST 1048576: true; the input reads as it did. -/
def bitsNumberUptoRow : OpenClaim := { program := "ytidnkckfkgaooaa", sum := "a7ca0f1610ab520d2cc41d550d8baa0803f31bcf50f6df781622aca5c051b2d0", func := "lighter/lighterlaw02.BitsNumber", spec := "bitsNumber", unfollowed := true, recurses := true, apart := false, narrowed := true }
def BitsNumberUptoSaid : Prop := bitsNumberUptoRow.holds Try.pinned (OpenSpec.upto bitsNumberSpec)

/-- 'lighterlaw02.BitsMap', WHERE WHAT IT READS IS OF BULK AT MOST 1048576: true; the input reads as it did. -/
def bitsMapUptoRow : OpenClaim := { program := "ytidnkckfkgaooaa", sum := "a7ca0f1610ab520d2cc41d550d8baa0803f31bcf50f6df781622aca5c051b2d0", func := "lighter/lighterlaw02.BitsMap", spec := "bitsMap", unfollowed := true, recurses := true, apart := false, narrowed := true }
def BitsMapUptoSaid : Prop := bitsMapUptoRow.holds Try.pinned (OpenSpec.upto bitsMapSpec)

/-- 'lighterlaw02.BitsBack', WHERE WHAT IT READS IS OF BULK AT MOST 1048576: true; the input reads as it did. -/
def bitsBackUptoRow : OpenClaim := { program := "ytidnkckfkgaooaa", sum := "a7ca0f1610ab520d2cc41d550d8baa0803f31bcf50f6df781622aca5c051b2d0", func := "lighter/lighterlaw02.BitsBack", spec := "bitsBack", unfollowed := true, recurses := true, apart := false, narrowed := true }
def BitsBackUptoSaid : Prop := bitsBackUptoRow.holds Try.pinned (OpenSpec.upto bitsBackSpec)

/-- 'lighterlaw02.BitsRun', WHERE WHAT IT READS IS OF BULK AT MOST 1048576: true; the input reads as it did. -/
def bitsRunUptoRow : OpenClaim := { program := "ytidnkckfkgaooaa", sum := "a7ca0f1610ab520d2cc41d550d8baa0803f31bcf50f6df781622aca5c051b2d0", func := "lighter/lighterlaw02.BitsRun", spec := "bitsRun", unfollowed := true, recurses := true, apart := false, narrowed := true }
def BitsRunUptoSaid : Prop := bitsRunUptoRow.holds Try.pinned (OpenSpec.upto bitsRunSpec)

/-- 'lighterlaw08.AllocFirst', WHERE WHAT IT READS IS OF BULK AT MOST 1048576: true; the input reads as it did. -/
def allocFirstUptoRow : OpenClaim := { program := "ytidnkckfkgaooaa", sum := "a7ca0f1610ab520d2cc41d550d8baa0803f31bcf50f6df781622aca5c051b2d0", func := "lighter/lighterlaw08.AllocFirst", spec := "allocFirst", unfollowed := true, recurses := true, apart := false, narrowed := true }
def AllocFirstUptoSaid : Prop := allocFirstUptoRow.holds Try.pinned (OpenSpec.upto allocFirstSpec)

/-- 'lighterlaw08.AllocPlay', WHERE WHAT IT READS IS OF BULK AT MOST 1048576: true; the input reads as it did. -/
def allocPlayUptoRow : OpenClaim := { program := "ytidnkckfkgaooaa", sum := "a7ca0f1610ab520d2cc41d550d8baa0803f31bcf50f6df781622aca5c051b2d0", func := "lighter/lighterlaw08.AllocPlay", spec := "allocPlay", unfollowed := true, recurses := true, apart := false, narrowed := true }
def AllocPlayUptoSaid : Prop := allocPlayUptoRow.holds Try.pinned (OpenSpec.upto allocPlaySpec)

/-- 'lighterlaw08.AllocNone', WHERE WHAT IT READS IS OF BULK AT MOST 1048576: true; the input reads as it did. -/
def allocNoneUptoRow : OpenClaim := { program := "ytidnkckfkgaooaa", sum := "a7ca0f1610ab520d2cc41d550d8baa0803f31bcf50f6df781622aca5c051b2d0", func := "lighter/lighterlaw08.AllocNone", spec := "allocNone", unfollowed := true, recurses := true, apart := false, narrowed := true }
def AllocNoneUptoSaid : Prop := allocNoneUptoRow.holds Try.pinned (OpenSpec.upto allocNoneSpec)

/-- 'lighterlaw08.AllocOf', WHERE WHAT IT READS IS OF BULK AT MOST 1048576: true; the input reads as it did. -/
def allocOfUptoRow : OpenClaim := { program := "ytidnkckfkgaooaa", sum := "a7ca0f1610ab520d2cc41d550d8baa0803f31bcf50f6df781622aca5c051b2d0", func := "lighter/lighterlaw08.AllocOf", spec := "allocOf", unfollowed := true, recurses := true, apart := false, narrowed := true }
def AllocOfUptoSaid : Prop := allocOfUptoRow.holds Try.pinned (OpenSpec.upto allocOfSpec)

/-- 'lighterlaw08.AllocApart', WHERE WHAT IT READS IS OF BULK AT MOST 1048576: true; the input reads as it did. -/
def allocApartUptoRow : OpenClaim := { program := "ytidnkckfkgaooaa", sum := "a7ca0f1610ab520d2cc41d550d8baa0803f31bcf50f6df781622aca5c051b2d0", func := "lighter/lighterlaw08.AllocApart", spec := "allocApart", unfollowed := true, recurses := true, apart := false, narrowed := true }
def AllocApartUptoSaid : Prop := allocApartUptoRow.holds Try.pinned (OpenSpec.upto allocApartSpec)

end Rows
end Go.Proofs.Ytidnkckfkgaooaa
