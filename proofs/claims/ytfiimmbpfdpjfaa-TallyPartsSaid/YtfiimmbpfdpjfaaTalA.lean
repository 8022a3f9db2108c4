/-
  What a goroutine has by a key: the program's answer and the document's.
-/
import Derived.Test.YtfiimmbpfdpjfaaFigM
import Derived.Test.YtfiimmbpfdpjfaaLotC
namespace Go.Proofs.Ytfiimmbpfdpjfaa
open Go.RowKit
set_option linter.unusedSimpArgs false

structure St where
  ser : Int
  fn : ByteArray
  be : Int
  di : Int
  pa : Int
  wa : Int
  fin : Bool
def St.cells (s : St) : List Value := [.int .i64 s.ser, .string s.fn, .int .i64 s.be, .int .i64 s.di, .int .i64 s.pa, .int .i64 s.wa, .bool s.fin]
def valueV (s : St) (k : Int) : Nat := if k = 1 then floatOfInt .f64 s.be else if k = 2 then floatOfInt .f64 s.di else if k = 3 then floatOfInt .f64 s.pa else if k = 4 then floatOfInt .f64 s.wa else if k = 5 then ratioV s.wa s.di else theNan
theorem ratio_none : ratioV 0 0 = theNan := by decide

theorem field1_c (s : St) (w : World) : Calls Try.prog 39 #[.agg #[.int .i64 s.ser, .string s.fn, .int .i64 s.be, .int .i64 s.di, .int .i64 s.pa, .int .i64 s.wa, .bool s.fin]] w fun e w' => e = .returned (.float .f64 (floatOfInt .f64 s.be)) ∧ Below w.heap.size w w' := by
  obtain ⟨v0, v1, v2, v3, v4, v5, v6⟩ := s
  go_enter Try.func39, Try.ntmps39
  go_wp2
  go_ret
  exact ⟨rfl, (Below.refl _ _).alloc (Nat.le_refl _) _⟩
theorem field2_c (s : St) (w : World) : Calls Try.prog 40 #[.agg #[.int .i64 s.ser, .string s.fn, .int .i64 s.be, .int .i64 s.di, .int .i64 s.pa, .int .i64 s.wa, .bool s.fin]] w fun e w' => e = .returned (.float .f64 (floatOfInt .f64 s.di)) ∧ Below w.heap.size w w' := by
  obtain ⟨v0, v1, v2, v3, v4, v5, v6⟩ := s
  go_enter Try.func40, Try.ntmps40
  go_wp2
  go_ret
  exact ⟨rfl, (Below.refl _ _).alloc (Nat.le_refl _) _⟩
theorem field3_c (s : St) (w : World) : Calls Try.prog 41 #[.agg #[.int .i64 s.ser, .string s.fn, .int .i64 s.be, .int .i64 s.di, .int .i64 s.pa, .int .i64 s.wa, .bool s.fin]] w fun e w' => e = .returned (.float .f64 (floatOfInt .f64 s.pa)) ∧ Below w.heap.size w w' := by
  obtain ⟨v0, v1, v2, v3, v4, v5, v6⟩ := s
  go_enter Try.func41, Try.ntmps41
  go_wp2
  go_ret
  exact ⟨rfl, (Below.refl _ _).alloc (Nat.le_refl _) _⟩
theorem field4_c (s : St) (w : World) : Calls Try.prog 42 #[.agg #[.int .i64 s.ser, .string s.fn, .int .i64 s.be, .int .i64 s.di, .int .i64 s.pa, .int .i64 s.wa, .bool s.fin]] w fun e w' => e = .returned (.float .f64 (floatOfInt .f64 s.wa)) ∧ Below w.heap.size w w' := by
  obtain ⟨v0, v1, v2, v3, v4, v5, v6⟩ := s
  go_enter Try.func42, Try.ntmps42
  go_wp2
  go_ret
  exact ⟨rfl, (Below.refl _ _).alloc (Nat.le_refl _) _⟩
theorem field5_c (s : St) (w : World) : Calls Try.prog 43 #[.agg #[.int .i64 s.ser, .string s.fn, .int .i64 s.be, .int .i64 s.di, .int .i64 s.pa, .int .i64 s.wa, .bool s.fin]] w fun e w' => e = .returned (.float .f64 (ratioV s.wa s.di)) ∧ Below w.heap.size w w' := by
  obtain ⟨v0, v1, v2, v3, v4, v5, v6⟩ := s
  have C := Lib.hid (ratio_c v5 v3)
  obtain ⟨R, hR⟩ : ∃ R, ratioV v5 v3 = R := ⟨_, rfl⟩
  rw [hR] at C
  have HR := Lib.hid hR
  clear hR
  go_enter Try.func43, Try.ntmps43
  go_wp2_with (go_at_call 23; refine (C.out _).mono ?_; rintro e w1 ⟨rfl, d, rfl⟩)
  go_ret
  exact ⟨by rw [← HR.out]; rfl, below_drewN ((Below.refl _ _).alloc (Nat.le_refl _) _) _⟩
def fieldCells : List Value := [.int .i64 1, .func (.func 39) #[] #[], .int .i64 2, .func (.func 40) #[] #[], .int .i64 3, .func (.func 41) #[] #[], .int .i64 4, .func (.func 42) #[] #[], .int .i64 5, .func (.func 43) #[] #[]]
theorem fields_c (w : World) : Calls Try.prog 22 #[] w fun e w' => e = .returned (.slice (some ⟨w.heap.size, 0, none⟩) 5 5) ∧ w' = w.alloc (.cells fieldCells.toArray 57) := by
  go_enter Try.func22, Try.ntmps22
  go_wp2
  go_ret
  exact ⟨rfl, rfl⟩
set_option maxHeartbeats 1000000 in
theorem refValue_c (s : St) (k : Int) (w : World) : Calls Try.prog 49 #[.agg #[.int .i64 s.ser, .string s.fn, .int .i64 s.be, .int .i64 s.di, .int .i64 s.pa, .int .i64 s.wa, .bool s.fin], .int .i64 k] w fun e w' => e = .returned (.float .f64 (valueV s k)) ∧ Below w.heap.size w w' := by
  obtain ⟨v0, v1, v2, v3, v4, v5, v6⟩ := s
  by_cases h1 : k = 1
  · subst h1
    have HV : Hid (valueV ⟨v0, v1, v2, v3, v4, v5, v6⟩ 1 = floatOfInt .f64 v2) := Lib.hid (by unfold valueV; rw [if_pos rfl])
    generalize valueV ⟨v0, v1, v2, v3, v4, v5, v6⟩ 1 = V at *
    generalize hF : floatOfInt .f64 v2 = F at *
    go_enter Try.func49, Try.ntmps49
    go_wp2
    go_ret
    exact ⟨by rw [HV.out]; rfl, (Below.refl _ _).alloc (Nat.le_refl _) _⟩
  by_cases h2 : k = 2
  · subst h2
    have HV : Hid (valueV ⟨v0, v1, v2, v3, v4, v5, v6⟩ 2 = floatOfInt .f64 v3) := Lib.hid (by unfold valueV; rw [if_neg (by decide), if_pos rfl])
    generalize valueV ⟨v0, v1, v2, v3, v4, v5, v6⟩ 2 = V at *
    generalize hF : floatOfInt .f64 v3 = F at *
    go_enter Try.func49, Try.ntmps49
    go_wp2
    go_ret
    exact ⟨by rw [HV.out]; rfl, (Below.refl _ _).alloc (Nat.le_refl _) _⟩
  by_cases h3 : k = 3
  · subst h3
    have HV : Hid (valueV ⟨v0, v1, v2, v3, v4, v5, v6⟩ 3 = floatOfInt .f64 v4) := Lib.hid (by unfold valueV; rw [if_neg (by decide), if_neg (by decide), if_pos rfl])
    generalize valueV ⟨v0, v1, v2, v3, v4, v5, v6⟩ 3 = V at *
    generalize hF : floatOfInt .f64 v4 = F at *
    go_enter Try.func49, Try.ntmps49
    go_wp2
    go_ret
    exact ⟨by rw [HV.out]; rfl, (Below.refl _ _).alloc (Nat.le_refl _) _⟩
  by_cases h4 : k = 4
  · subst h4
    have HV : Hid (valueV ⟨v0, v1, v2, v3, v4, v5, v6⟩ 4 = floatOfInt .f64 v5) := Lib.hid (by unfold valueV; rw [if_neg (by decide), if_neg (by decide), if_neg (by decide), if_pos rfl])
    generalize valueV ⟨v0, v1, v2, v3, v4, v5, v6⟩ 4 = V at *
    generalize hF : floatOfInt .f64 v5 = F at *
    go_enter Try.func49, Try.ntmps49
    go_wp2
    go_ret
    exact ⟨by rw [HV.out]; rfl, (Below.refl _ _).alloc (Nat.le_refl _) _⟩
  by_cases h5 : k = 5
  · subst h5
    have C := Lib.hid (refRatio_c v5 v3)
    have HV : Hid (valueV ⟨v0, v1, v2, v3, v4, v5, v6⟩ 5 = ratioV v5 v3) := Lib.hid (by unfold valueV; rw [if_neg (by decide), if_neg (by decide), if_neg (by decide), if_neg (by decide), if_pos rfl])
    obtain ⟨R, hR⟩ : ∃ R, ratioV v5 v3 = R := ⟨_, rfl⟩
    rw [hR] at C HV
    clear hR
    generalize valueV ⟨v0, v1, v2, v3, v4, v5, v6⟩ 5 = V at *
    go_enter Try.func49, Try.ntmps49
    go_wp2_with (go_at_call 55; refine (C.out _).mono ?_; rintro e w1 ⟨rfl, d, rfl⟩)
    go_ret
    exact ⟨by rw [HV.out]; rfl, below_drewN ((Below.refl _ _).alloc (Nat.le_refl _) _) _⟩
  have e1 : (k == 1) = false := beq_eq_false_iff_ne.2 h1
  have e2 : (k == 2) = false := beq_eq_false_iff_ne.2 h2
  have e3 : (k == 3) = false := beq_eq_false_iff_ne.2 h3
  have e4 : (k == 4) = false := beq_eq_false_iff_ne.2 h4
  have e5 : (k == 5) = false := beq_eq_false_iff_ne.2 h5
  have HV : Hid (valueV ⟨v0, v1, v2, v3, v4, v5, v6⟩ k = theNan) := Lib.hid (by unfold valueV; rw [if_neg h1, if_neg h2, if_neg h3, if_neg h4, if_neg h5])
  have C := Lib.hid refNone_c
  generalize valueV ⟨v0, v1, v2, v3, v4, v5, v6⟩ k = V at *
  go_enter Try.func49, Try.ntmps49
  go_wp2_with (go_at_call 50; refine (C.out _).mono ?_; rintro e w1 ⟨rfl, rfl⟩)
  go_ret
  exact ⟨by rw [HV.out]; rfl, (Below.refl _ _).alloc (Nat.le_refl _) _⟩
end Go.Proofs.Ytfiimmbpfdpjfaa
