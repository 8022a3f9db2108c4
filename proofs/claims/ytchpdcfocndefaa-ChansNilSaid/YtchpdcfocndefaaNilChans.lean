/-
  chansNil, run.
-/
import Derived.Test.YtchpdcfocndefaaEvQ
namespace Go.Proofs.Ytchpdcfocndefaa
open Go.Ev
theorem chansNil_run (s g a b n c d : Int) : evTrue Try.prog 6000 0 7 [.agg #[.int .u32 s, .int .u32 g], .agg #[.int .u32 a, .int .u32 b], .agg #[.int .i64 n, .int .u32 c, .int .u32 d]] = true := by kernel_rfl
end Go.Proofs.Ytchpdcfocndefaa
