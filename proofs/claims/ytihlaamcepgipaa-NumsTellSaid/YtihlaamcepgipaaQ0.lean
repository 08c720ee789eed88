/- The plain Lean functions of the given program's functions, and that the calls answer as they do. Written by a program of this session out of the translation. -/
import Derived.Test.YtihlaamcepgipaaProg
import Derived.Below
import Derived.Deep.Draws
import Derived.Deep.AppendLies
import Derived.Maps.AppendAt
import Derived.OwnWalk
import Derived.Laws.BytesArg
import Derived.Laws.MakeOwn
import Derived.Laws.OwnMore
import Derived.Deep.OwnRows
import Derived.Tactics
import Derived.Lib.ConvBytes
import Derived.Laws.Slices
import Derived.WalkKit
import Derived.KernelRfl
import Derived.RowKit3
import Derived.Deep.LoopGhost
import Derived.Deep.QuietTactic
import Derived.BigQuiet
import Derived.WideLaws
import Derived.Deep.DeepCutAuto
import Derived.Deep.CutBlock
import Derived.Deep.RegionHeld3
import Derived.Laws.Rows
import Derived.Lib.AppendStr
import Derived.ArgAppend
import Derived.Laws.IdiomCopy
import Derived.OrdersHeld
import Derived.Laws.BitsLemmas
import Derived.RowKit
import Derived.Test.YtihlaamcepgipaaWWords
import Derived.Test.YtihlaamcepgipaaWLast
import Derived.Test.YtihlaamcepgipaaWTab
import Derived.Test.YtihlaamcepgipaaWFour
import Derived.Test.YtihlaamcepgipaaWQPut
import Derived.Test.YtihlaamcepgipaaWApart
import Derived.Test.YtihlaamcepgipaaWArr
import Derived.Test.YtihlaamcepgipaaWZeros
import Derived.Test.YtihlaamcepgipaaWFoot
import Derived.Test.YtihlaamcepgipaaWKept
import Derived.Test.YtihlaamcepgipaaWShare
import Derived.Test.YtihlaamcepgipaaWN
import Derived.Test.YtihlaamcepgipaaWFootNe
import Derived.Test.YtihlaamcepgipaaWAt
import Derived.Test.YtihlaamcepgipaaWEqStruct
import Derived.Test.YtihlaamcepgipaaWRepsOne
import Derived.Test.YtihlaamcepgipaaWInv
import Derived.Test.YtihlaamcepgipaaWInvWords
import Derived.Test.YtihlaamcepgipaaWGuard
import Derived.Test.YtihlaamcepgipaaWNEv
import Derived.Test.YtihlaamcepgipaaWMore
namespace Go.Proofs.Ytihlaamcepgipaa.Q
open Go.RowKit Go.Proofs.YtihlaamcepgipaaW.PrintWords Go.Proofs.YtihlaamcepgipaaW.PrintLast Go.Proofs.YtihlaamcepgipaaW.PrintMore
attribute [local go_sem] max2_int min2_int max_two min_two max_three min_three max_four min_four   -- for this text's walks alone
set_option linter.unusedVariables false
set_option linter.unusedSimpArgs false



def errW : Option Int → Value
  | none => .nilIface
  | some c => .iface 0 (.int .i64 c)
theorem errW_none : errW none = .nilIface := rfl
theorem errW_some (c : Int) : errW (some c) = .iface 0 (.int .i64 c) := rfl

theorem info3 : (Try.prog.info? 3).map (fun i => (i.zero, i.size, i.bytes)) = some (some (.int .i64 0), 1, 8) := by kernel_rfl
-- the values' own types

end Go.Proofs.Ytihlaamcepgipaa.Q
