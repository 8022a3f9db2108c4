/-
  awake of the law comes out true.
-/
import Derived.Test.YtgndpodeedjohaaEvQ
namespace Go.Proofs.Ytgndpodeedjohaa
open Go.Ev Go.RowKit
theorem awake11_run : evTrue Try.prog 6000 0 5 [] = true := by kernel_rfl
theorem awake11_c (w : World) : Calls Try.prog 5 #[] w fun e w' => e = .returned (.bool true) ∧ Below w.heap.size w w' :=
  true_closed (by kernel_rfl) 6000 awake11_run (by kernel_rfl) w
end Go.Proofs.Ytgndpodeedjohaa
