/-
  locksNil, run.
-/
import Derived.Test.YtchpdcfocndefaaEvQ
namespace Go.Proofs.Ytchpdcfocndefaa
open Go.Ev
theorem locksNil_run (s g a b n : Int) : evTrue Try.prog 6000 0 5 [.agg #[.int .u32 s, .int .u32 g], .agg #[.int .u32 a, .int .u32 b], .int .i64 n] = true := by kernel_rfl
end Go.Proofs.Ytchpdcfocndefaa
