/-
  selNil, run.
-/
import Derived.Test.YtchpdcfocndefaaEvQ
namespace Go.Proofs.Ytchpdcfocndefaa
open Go.Ev
theorem selNil_run (s g i : Int) : evTrue Try.prog 6000 0 6 [.agg #[.int .u32 s, .int .u32 g], .slice none 0 0, .int .i64 i] = true := by kernel_rfl
theorem selNil_run1 (s g i : Int) (o n : Nat) (x : Option Nat) : evTrue Try.prog 6000 1 6 [.agg #[.int .u32 s, .int .u32 g], .slice (some ⟨0, o, x⟩) n unk, .int .i64 i] = true := by kernel_rfl
end Go.Proofs.Ytchpdcfocndefaa
