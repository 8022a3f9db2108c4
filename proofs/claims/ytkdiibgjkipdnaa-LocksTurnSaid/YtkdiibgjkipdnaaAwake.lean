/-
  awake of the law comes out true.
-/
import Derived.Test.YtkdiibgjkipdnaaEvQ
namespace Go.Proofs.Ytkdiibgjkipdnaa
open Go.Ev Go.RowKit
theorem awake16_run : evTrue Try.prog 6000 0 5 [] = true := by kernel_rfl
theorem awake16_c (w : World) : Calls Try.prog 5 #[] w fun e w' => e = .returned (.bool true) ∧ Below w.heap.size w w' :=
  true_closed (by kernel_rfl) 6000 awake16_run (by kernel_rfl) w
end Go.Proofs.Ytkdiibgjkipdnaa
