/- The plain Lean functions of the given program's functions, and that the calls answer as they do. Written by a program of this session out of the translation. -/
import Derived.Test.YtidnkckfkgaooaaProg
import Derived.Below
import Derived.Deep.Draws
import Derived.Deep.AppendLies
import Derived.Maps.AppendAt
import Derived.OwnWalk
import Derived.Laws.BytesArg
import Derived.Laws.MakeOwn
import Derived.Laws.OwnMore
import Derived.Deep.OwnRows
import Derived.Tactics
import Derived.Lib.ConvBytes
import Derived.Laws.Slices
import Derived.WalkKit
import Derived.KernelRfl
import Derived.RowKit3
import Derived.Deep.LoopGhost
import Derived.Deep.QuietTactic
import Derived.BigQuiet
import Derived.WideLaws
import Derived.Deep.DeepCutAuto
import Derived.Deep.CutBlock
import Derived.Deep.RegionHeld3
import Derived.Laws.Rows
import Derived.Lib.AppendStr
import Derived.ArgAppend
import Derived.Laws.IdiomCopy
import Derived.OrdersHeld
import Derived.Laws.BitsLemmas
import Derived.RowKit
import Derived.Test.YtidnkckfkgaooaaExt
import Derived.Test.YtidnkckfkgaooaaWWords
import Derived.Test.YtidnkckfkgaooaaWLast
import Derived.Test.YtidnkckfkgaooaaWTab
import Derived.Test.YtidnkckfkgaooaaWFour
import Derived.Test.YtidnkckfkgaooaaWQPut
import Derived.Test.YtidnkckfkgaooaaWApart
import Derived.Test.YtidnkckfkgaooaaWArr
import Derived.Test.YtidnkckfkgaooaaWZeros
import Derived.Test.YtidnkckfkgaooaaWFoot
import Derived.Test.YtidnkckfkgaooaaWKept
import Derived.Test.YtidnkckfkgaooaaWShare
import Derived.Test.YtidnkckfkgaooaaWN
import Derived.Test.YtidnkckfkgaooaaWFootNe
import Derived.Test.YtidnkckfkgaooaaWAt
import Derived.Test.YtidnkckfkgaooaaWEqStruct
import Derived.Test.YtidnkckfkgaooaaWRepsOne
import Derived.Test.YtidnkckfkgaooaaWInv
import Derived.Test.YtidnkckfkgaooaaWInvWords
import Derived.Test.YtidnkckfkgaooaaWGuard
import Derived.Test.YtidnkckfkgaooaaWNEv
import Derived.Test.YtidnkckfkgaooaaWMore
namespace Go.Proofs.Ytidnkckfkgaooaa.Q
open Go.RowKit Go.Proofs.YtidnkckfkgaooaaW.PrintWords Go.Proofs.YtidnkckfkgaooaaW.PrintLast Go.Proofs.YtidnkckfkgaooaaW.PrintMore
attribute [local go_sem] max2_int min2_int max_two min_two max_three min_three max_four min_four   -- for this text's walks alone
set_option linter.unusedVariables false
set_option linter.unusedSimpArgs false



def errW : Option Int → Value
  | none => .nilIface
  | some c => .iface 0 (.int .i64 c)
theorem errW_none : errW none = .nilIface := rfl
theorem errW_some (c : Int) : errW (some c) = .iface 0 (.int .i64 c) := rfl

theorem info5 : (Try.prog.info? 5).map (fun i => (i.zero, i.size, i.bytes)) = some (some (.int .u8 0), 1, 1) := by kernel_rfl
-- the values' own types

end Go.Proofs.Ytidnkckfkgaooaa.Q
