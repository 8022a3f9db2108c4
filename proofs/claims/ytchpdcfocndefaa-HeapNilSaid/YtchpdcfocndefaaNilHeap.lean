/-
  heapNil, run.
-/
import Derived.Test.YtchpdcfocndefaaEvQ
namespace Go.Proofs.Ytchpdcfocndefaa
open Go.Ev
theorem heapNil_run (s g kd : Int) : evTrue Try.prog 6000 0 3 [.agg #[.int .u32 s, .int .u32 g], .int .i64 kd] = true := by kernel_rfl
end Go.Proofs.Ytchpdcfocndefaa
