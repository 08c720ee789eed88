/- What is taken stands apart: the law's walk, at any input. -/
import Derived.Test.YtidnkckfkgaooaaAl28
import Derived.Test.YtidnkckfkgaooaaOpn2
namespace Go.Proofs.Ytidnkckfkgaooaa.Al
open Go.RowKit Go.Shelf Go.Proofs Go.Proofs.Ytidnkckfkgaooaa.Ext Go.Proofs.Ytidnkckfkgaooaa.Pure Go.Proofs.YtidnkckfkgaooaaW.PrintWords Go.Proofs.YtidnkckfkgaooaaW.PrintLast Go.Proofs.YtidnkckfkgaooaaW.PrintMore
theorem allocApart_walk (w : World) (a : Int) (v : Value) (A : List Nat) (bk : Int) (ha : (Lit.int .u8 a).wf = true) (hr : U8Row w v A) : Calls Try.prog 11 #[.int .u8 a, v, .int .u64 bk] w fun e w' => e = .returned (.bool true) ∧ Below w.heap.size w w' := by
  obtain ⟨n, rfl, hn⟩ := nat_u8 ha
  exact allocApart_calls w n v A bk hn hr
end Go.Proofs.Ytidnkckfkgaooaa.Al
