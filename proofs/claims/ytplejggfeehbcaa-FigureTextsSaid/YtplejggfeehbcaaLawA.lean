/-
  The walks of FigureRatios, FigureOrder, FigureClasses: each returns true, whatever its numbers.
-/
import Derived.Test.YtplejggfeehbcaaFigF
namespace Go.Proofs.Ytplejggfeehbcaa
open Go.RowKit
set_option linter.unusedSimpArgs false

theorem ratios_walk (a b : Int) (w : World) (_ha : (Lit.int .i64 a).wf = true) (_hb : (Lit.int .i64 b).wf = true) :
    Calls Try.prog 3 #[.int .i64 a, .int .i64 b] w fun e w' => e = .returned (.bool true) ∧ Below w.heap.size w w' := by
  have c1 := Lib.hid (ratio_c a b)
  have c2 := Lib.hid (refRatio_c a b)
  generalize ratioV a b = r at *
  go_enter Try.func3, Try.ntmps3
  go_wp2_with fail
  refine (awake01_c _).mono ?_
  rintro e w1 ⟨rfl, hb1⟩
  have HB := Lib.hid hb1
  clear hb1
  go_wp2_with fail
  refine (c1.out _).mono ?_
  rintro e w2 ⟨rfl, hd2⟩
  have HB2 := Lib.hid hd2.below
  clear hd2
  go_wp2_with fail
  refine (c2.out _).mono ?_
  rintro e w3 ⟨rfl, hd3⟩
  have HB3 := Lib.hid hd3.below
  clear hd3
  go_wp2_with fail
  refine (bits_c _ _ _).mono ?_
  rintro e w4 ⟨rfl, rfl⟩
  rw [decide_eq_true rfl]
  go_wp2
  go_ret
  have h1 := HB.out.size
  have h2 := HB2.out.size
  exact ⟨rfl, HB.out.trans ((HB2.out.mono h1).trans (HB3.out.mono (by omega)))⟩

theorem float_lt {x : Nat} (h : (Lit.float .f64 x).wf = true) : x < 18446744073709551616 := by simpa [Lit.wf] using h

set_option maxHeartbeats 1000000 in
theorem classes_walk (a b : Nat) (w : World) (ha : (Lit.float .f64 a).wf = true) (hb : (Lit.float .f64 b).wf = true) :
    Calls Try.prog 5 #[.float .f64 a, .float .f64 b] w fun e w' => e = .returned (.bool true) ∧ Below w.heap.size w w' := by
  have la := float_lt ha
  have lb := float_lt hb
  have c1 := Lib.hid (one_c a)
  have c2 := Lib.hid (refOne_c a)
  have c3 := Lib.hid (class_c a la)
  have c4 := Lib.hid (refClass_c a la)
  have c5 := Lib.hid (refOrder_c a b la lb)
  have c6 := Lib.hid (order_c a b la lb)
  have c7 := Lib.hid (same_c a b la lb)
  generalize onev a = o at *
  generalize classV a = k at *
  generalize Fl.ordV a b = d at *
  clear ha hb la lb
  go_enter Try.func5, Try.ntmps5
  go_wp2_with fail
  refine (awake01_c _).mono ?_
  rintro e w1 ⟨rfl, hb1⟩
  have HB := Lib.hid hb1
  clear hb1
  go_wp2_with fail
  refine (c1.out _).mono ?_
  rintro e w2 ⟨rfl, rfl⟩
  go_wp2_with fail
  refine (c2.out _).mono ?_
  rintro e w2 ⟨rfl, rfl⟩
  go_wp2_with fail
  refine (bits_c _ _ _).mono ?_
  rintro e w4 ⟨rfl, rfl⟩
  rw [decide_eq_true rfl]
  go_wp2_with fail
  refine (c3.out _).mono ?_
  rintro e w2 ⟨rfl, rfl⟩
  go_wp2_with fail
  refine (c4.out _).mono ?_
  rintro e w2 ⟨rfl, rfl⟩
  go_wp2_with fail
  refine (c5.out _).mono ?_
  rintro e w2 ⟨rfl, rfl⟩
  go_wp2_with fail
  refine (c6.out _).mono ?_
  rintro e w2 ⟨rfl, rfl⟩
  go_wp2_with fail
  refine (c7.out _).mono ?_
  rintro e w2 ⟨rfl, rfl⟩
  go_wp2
  go_ret
  exact ⟨rfl, HB.out⟩
end Go.Proofs.Ytplejggfeehbcaa
