/-
  The walk of FigureOrder: Order is an order of all numbers.
-/
import Derived.Test.YtplejggfeehbcaaLawA
import Derived.Deep.DeepCutAuto
import Derived.Deep.CutBlock
namespace Go.Proofs.Ytplejggfeehbcaa
open Go.RowKit
set_option linter.unusedSimpArgs false

theorem ord_cases (a b : Nat) : (Fl.ordV a b = -1 ∧ Fl.key a < Fl.key b) ∨ (Fl.ordV a b = 1 ∧ Fl.key b < Fl.key a) ∨ (Fl.ordV a b = 0 ∧ Fl.key a = Fl.key b) := by
  rcases Nat.lt_trichotomy (Fl.key a) (Fl.key b) with h | h | h
  · exact .inl ⟨ordV_lt h, h⟩
  · exact .inr (.inr ⟨ordV_eq h, h⟩)
  · exact .inr (.inl ⟨ordV_gt h, h⟩)

set_option maxHeartbeats 1000000 in
set_option maxRecDepth 100000 in
theorem order_walk (a b c : Nat) (w : World) (ha : (Lit.float .f64 a).wf = true) (hb : (Lit.float .f64 b).wf = true) (hc : (Lit.float .f64 c).wf = true) :
    Calls Try.prog 4 #[.float .f64 a, .float .f64 b, .float .f64 c] w fun e w' => e = .returned (.bool true) ∧ Below w.heap.size w w' := by
  have la := float_lt ha
  have lb := float_lt hb
  have lc := float_lt hc
  have c1 := Lib.hid (order_c a b la lb)
  have c2 := Lib.hid (order_c b c lb lc)
  have c3 := Lib.hid (order_c a c la lc)
  have c4 := Lib.hid (order_c b a lb la)
  have c5 := Lib.hid (order_c a a la la)
  have l1 : (Fl.F.order a b == some .lt) = Fl.ltB a b := Fl.lss a b
  have l2 : (Fl.F.order a b == some .gt) = Fl.ltB b a := Fl.gtr a b
  have k1 := Fl.lt_key la lb
  have k2 := Fl.lt_key lb la
  have o1 := ord_cases a b
  have o2 := ord_cases b c
  have o3 := ord_cases a c
  have o4 := ord_cases b a
  have o5 := ord_cases a a
  generalize Fl.ordV a b = x at *
  generalize Fl.ordV b c = y at *
  generalize Fl.ordV a c = z at *
  generalize Fl.ordV b a = v at *
  generalize Fl.ordV a a = m at *
  generalize Fl.key a = ka at *
  generalize Fl.key b = kb at *
  generalize Fl.key c = kc at *
  obtain rfl : m = 0 := by omega
  obtain rfl : v = -x := by omega
  have hlt : Fl.ltB a b = true → x < 0 := fun h => by have := k1 h; omega
  have hgt : Fl.ltB b a = true → x > 0 := fun h => by have := k2 h; omega
  have hx : x = -1 ∨ x = 0 ∨ x = 1 := by omega
  have hy : y = -1 ∨ y = 0 ∨ y = 1 := by omega
  have hz : z = -1 ∨ z = 0 ∨ z = 1 := by omega
  have hfar1 : x ≤ 0 → y ≤ 0 → z ≤ 0 := by omega
  have hfar2 : 0 ≤ x → 0 ≤ y → 0 ≤ z := by omega
  clear k1 k2 o1 o2 o3 o4 o5 ha hb hc la lb lc
  generalize Fl.ltB a b = p at *
  generalize Fl.ltB b a = q at *
  have HX : Hid (-1 ≤ x ∧ x ≤ 1) := Lib.hid (by omega)
  clear hx hy hz
  have HP := Lib.hid hlt
  have HQ := Lib.hid hgt
  have H1 := Lib.hid hfar1
  have H2 := Lib.hid hfar2
  clear hlt hgt hfar1 hfar2
  go_enter Try.func4, Try.ntmps4
  go_wp2_with fail
  refine (awake01_c _).mono ?_
  rintro e w1 ⟨rfl, hb1⟩
  have HB := Lib.hid hb1
  clear hb1
  go_wp2_with fail
  refine (c1.out _).mono ?_
  rintro e w2 ⟨rfl, rfl⟩
  go_wp2_with fail
  refine (c2.out _).mono ?_
  rintro e w2 ⟨rfl, rfl⟩
  go_wp2_with fail
  refine (c3.out _).mono ?_
  rintro e w2 ⟨rfl, rfl⟩
  go_wp2_with fail
  refine (c4.out _).mono ?_
  rintro e w2 ⟨rfl, rfl⟩
  go_wp2_with fail
  refine (c5.out _).mono ?_
  rintro e w2 ⟨rfl, rfl⟩
  go_upto_region 7 with (fail)
  go_cut [13] (fun v wc => v = .bool false ∧ wc = w1)
  case first =>
    by_cases a1 : x ≤ 0
    · by_cases a2 : y ≤ 0
      · have a3 := H1.out a1 a2
        by_cases a4 : 0 ≤ x
        · by_cases a5 : 0 ≤ y
          · have a6 := H2.out a4 a5
            go_wp2
            go_meet
            case rel => exact ⟨by first | rfl | (congr 1; simp; omega), rfl⟩
          · go_wp2
            go_meet
            case rel => exact ⟨by first | rfl | (congr 1; simp; omega), rfl⟩
        · go_wp2
          go_meet
          case rel => exact ⟨by first | rfl | (congr 1; simp; omega), rfl⟩
      · by_cases a4 : 0 ≤ x
        · have a5 : 0 ≤ y := by omega
          have a6 := H2.out a4 a5
          go_wp2
          go_meet
          case rel => exact ⟨by first | rfl | (congr 1; simp; omega), rfl⟩
        · go_wp2
          go_meet
          case rel => exact ⟨by first | rfl | (congr 1; simp; omega), rfl⟩
    · have a4 : 0 ≤ x := by omega
      by_cases a5 : 0 ≤ y
      · have a6 := H2.out a4 a5
        go_wp2
        go_meet
        case rel => exact ⟨by first | rfl | (congr 1; simp; omega), rfl⟩
      · go_wp2
        go_meet
        case rel => exact ⟨by first | rfl | (congr 1; simp; omega), rfl⟩
  case rest =>
    obtain ⟨rfl, rfl⟩ := hcut
    go_upto_region 8 with (fail)
    go_cut [14] (fun v wd => v = .bool false ∧ wd = wc)
    case first =>
      by_cases p1 : p = true
      · have l3 := l1.trans p1
        have x1 := HP.out p1
        have l4 : (Fl.F.order a b == some .gt) = false := by
          rw [l2]
          cases q with
          | false => rfl
          | true => have := HQ.out rfl; omega
        clear l1 l2 p1
        go_wp2
        go_meet
        case rel => exact ⟨by first | rfl | (congr 1; simp; omega), rfl⟩
      · have l3 := l1.trans (Bool.eq_false_iff.2 p1)
        by_cases q1 : q = true
        · have l4 := l2.trans q1
          have x1 := HQ.out q1
          clear l1 l2 p1 q1
          go_wp2
          go_meet
          case rel => exact ⟨by first | rfl | (congr 1; simp; omega), rfl⟩
        · have l4 := l2.trans (Bool.eq_false_iff.2 q1)
          clear l1 l2 p1 q1
          go_wp2
          go_meet
          case rel => exact ⟨by first | rfl | (congr 1; simp; omega), rfl⟩
    case rest =>
      obtain ⟨rfl, rfl⟩ := hcut
      have bx : -1 ≤ x ∧ x ≤ 1 := HX.out
      go_wp2
      go_ret
      exact ⟨rfl, HB.out⟩
end Go.Proofs.Ytplejggfeehbcaa
