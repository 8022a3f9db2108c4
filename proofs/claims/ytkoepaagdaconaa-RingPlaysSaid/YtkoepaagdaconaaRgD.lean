/-
  The rows of the document's examples for rings; a number's text.
-/
import Derived.Test.YtkoepaagdaconaaRgCI
import Derived.Test.YtkoepaagdaconaaRgBS
import Derived.WalkMore
namespace Go.Proofs.Ytkoepaagdaconaa
open Go.RowKit
set_option linter.unusedSimpArgs false

set_option maxHeartbeats 4000000 in
set_option maxRecDepth 100000 in
theorem awake12_c (w : World) : Calls Try.prog 7 #[] w fun e w' => e = .returned (.bool true) ∧ Below w.heap.size w w' := by
  go_enter Try.func7, Try.ntmps7
  go_wp2_with fail
  refine (RI.new_c 2 (by omega) w).mono ?_
  rintro e w1 ⟨b, g, rfl, hb, hg, hR, hB⟩
  have HR := Lib.hid hR
  have HB := Lib.hid hB
  clear hR hB
  go_wp2_with fail
  refine (RI.put_c b g 2 [] 1 w1 HR.out (by omega) (by decide)).mono ?_
  rintro e w2 ⟨rfl, hR, hB⟩
  have HR2 := Lib.hid hR
  have HB2 := Lib.hid (hB.below HB.out HB.out.size (fun i hi => by rcases hi with rfl | rfl <;> assumption))
  clear hR hB
  go_wp2_with fail
  refine (RI.put_c b g 2 _ 2 w2 HR2.out (by omega) (by decide)).mono ?_
  rintro e w3 ⟨rfl, hR, hB⟩
  have HR3 := Lib.hid hR
  have HB3 := Lib.hid (hB.below HB2.out HB2.out.size (fun i hi => by rcases hi with rfl | rfl <;> assumption))
  clear hR hB
  go_wp2_with fail
  refine (RI.putFull_c b g 2 _ 3 w3 HR3.out (by decide)).mono ?_
  rintro e w4 ⟨rfl, d4, rfl⟩
  go_wp2_with fail
  refine (RI.take_c b g 2 _ 1 (w3.drewN d4) (HR3.out.drewN d4) (by omega)).mono ?_
  rintro e w5 ⟨rfl, hR, hB⟩
  have HR5 := Lib.hid hR
  have HB5 := Lib.hid (hB.below (below_drewN HB3.out d4) HB3.out.size (fun i hi => by rcases hi with rfl | rfl <;> assumption))
  clear hR hB
  go_wp2_with fail
  refine (RI.put_c b g 2 _ 4 w5 HR5.out (by omega) (by decide)).mono ?_
  rintro e w6 ⟨rfl, hR, hB⟩
  have HR6 := Lib.hid hR
  have HB6 := Lib.hid (hB.below HB5.out HB5.out.size (fun i hi => by rcases hi with rfl | rfl <;> assumption))
  clear hR hB
  go_wp2_with fail
  refine (RI.at_c b g 2 1 _ 4 w6 HR6.out (by omega) rfl).mono ?_
  rintro e w7 ⟨rfl, d7, rfl⟩
  have CL := Lib.hid (RI.len_c b g 2 _ (w6.drewN d7) (HR6.out.drewN d7))
  go_wp2_with (go_at_call 21; refine CL.out.mono ?_; rintro e w8 ⟨rfl, rfl⟩)
  go_ret
  exact ⟨rfl, below_drewN HB6.out _⟩
end Go.Proofs.Ytkoepaagdaconaa
