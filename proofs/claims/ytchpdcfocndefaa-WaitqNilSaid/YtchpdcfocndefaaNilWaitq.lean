/-
  waitqNil, run.
-/
import Derived.Test.YtchpdcfocndefaaEvQ
namespace Go.Proofs.Ytchpdcfocndefaa
open Go.Ev
theorem waitqNil_run (s g d a b n : Int) : evTrue Try.prog 6000 0 4 [.agg #[.int .u32 s, .int .u32 g, .int .i64 d], .agg #[.int .u32 a, .int .u32 b], .int .i64 n] = true := by kernel_rfl
end Go.Proofs.Ytchpdcfocndefaa
