/-
  Contracts of the functions of figure and of the document's answer that take and give single floats.
-/
import Derived.Test.YtfiimmbpfdpjfaaChecked
import Derived.Test.YtfiimmbpfdpjfaaFl
import Derived.WalkKit
import Derived.WalkLawsBesides
import Derived.WalkSpells
import Derived.Lib.Hide
import Derived.Outline
namespace Go.Proofs.Ytfiimmbpfdpjfaa
open Go.RowKit

/-- some draws -/
def Drw (w w' : World) : Prop := ∃ n, w' = w.drewN n
theorem Drw.refl (w : World) : Drw w w := ⟨0, rfl⟩

@[go_sem] theorem bits_run (b : Nat) (w : World) : (callFunc 26 #[.float .f64 b]).run Try.prog w = .ok (.value (.int .u64 b)) w := by
  rw [run_callFunc_extern (P := Try.prog) (f := 26) Try.func26 (by kernel_rfl) (by kernel_rfl) (by kernel_rfl) (e := Extern.MathFloatBits.float64bits) (by kernel_rfl)]
  rfl
@[go_sem] theorem frombits_run (b : Int) (w : World) : (callFunc 48 #[.int .u64 b]).run Try.prog w = .ok (.value (.float .f64 b.toNat)) w := by
  rw [run_callFunc_extern (P := Try.prog) (f := 48) Try.func48 (by kernel_rfl) (by kernel_rfl) (by kernel_rfl) (e := Extern.MathFloatBits.float64frombits) (by kernel_rfl)]
  rfl

/-- the one NaN -/
def theNan : Nat := 9221120237041090561
def onev (x : Nat) : Nat := if Fl.nan x then theNan else x

theorem nan_c (w : World) : Calls Try.prog 30 #[] w fun e w' => e = .returned (.float .f64 theNan) ∧ w = w' := by
  go_enter Try.func30, Try.ntmps30
  go_wp2
  go_ret
  exact ⟨rfl, rfl⟩
theorem refNone_c (w : World) : Calls Try.prog 50 #[] w fun e w' => e = .returned (.float .f64 theNan) ∧ w = w' := by
  go_enter Try.func50, Try.ntmps50
  go_wp2
  go_ret
  exact ⟨rfl, rfl⟩

theorem bits_c (x y : Nat) (w : World) : Calls Try.prog 16 #[.float .f64 x, .float .f64 y] w fun e w' => e = .returned (.bool (decide (x = y))) ∧ w = w' := by
  go_enter Try.func16, Try.ntmps16
  go_wp2
  go_ret
  have e : ((x : Int) == (y : Int)) = decide (x = y) := by
    rw [Bool.eq_iff_iff, beq_iff_eq, decide_eq_true_eq]; omega
  rw [e]
  exact ⟨rfl, rfl⟩

theorem one_c (x : Nat) (w : World) : Calls Try.prog 18 #[.float .f64 x] w fun e w' => e = .returned (.float .f64 (onev x)) ∧ w = w' := by
  unfold onev
  cases h : Fl.nan x with
  | true =>
    have h1 : (Fl.F.order x x != some .eq) = true := by rw [Fl.neq_self, h]
    go_enter Try.func18, Try.ntmps18
    go_wp2_with (go_at_call 30; refine (nan_c _).mono ?_; rintro e w' ⟨rfl, rfl⟩)
    go_ret
    exact ⟨rfl, rfl⟩
  | false =>
    have h1 : (Fl.F.order x x != some .eq) = false := by rw [Fl.neq_self, h]
    go_enter Try.func18, Try.ntmps18
    go_wp2
    go_ret
    exact ⟨rfl, rfl⟩
theorem refOne_c (x : Nat) (w : World) : Calls Try.prog 35 #[.float .f64 x] w fun e w' => e = .returned (.float .f64 (onev x)) ∧ w = w' := by
  unfold onev
  cases h : Fl.nan x with
  | true =>
    have h1 : (Fl.F.order x x != some .eq) = true := by rw [Fl.neq_self, h]
    go_enter Try.func35, Try.ntmps35
    go_wp2_with (go_at_call 50; refine (refNone_c _).mono ?_; rintro e w' ⟨rfl, rfl⟩)
    go_ret
    exact ⟨rfl, rfl⟩
  | false =>
    have h1 : (Fl.F.order x x != some .eq) = false := by rw [Fl.neq_self, h]
    go_enter Try.func35, Try.ntmps35
    go_wp2
    go_ret
    exact ⟨rfl, rfl⟩

theorem or63 {x : Nat} (h : x < 9223372036854775808) : bits .or .u64 (x : Int) 9223372036854775808 = ((x + 9223372036854775808 : Nat) : Int) := by
  rw [show (9223372036854775808 : Int) = ((9223372036854775808 : Nat) : Int) from rfl, u64_or_nat _ _ (by omega) (by omega)]
  congr 1
  rw [Nat.or_comm]
  exact (Nat.two_pow_add_eq_or_of_lt (i := 63) h 1).symm.trans (by omega)
theorem xor64 {x : Nat} (h : x < 18446744073709551616) : bits .xor .u64 IntKind.u64.max (x : Int) = ((18446744073709551615 - x : Nat) : Int) := by
  rw [show IntKind.u64.max = ((18446744073709551615 : Nat) : Int) from by decide, u64_xor_nat _ _ (by omega) h]
  congr 1
  apply Nat.eq_of_testBit_eq
  intro i
  have h2 : (18446744073709551615 : Nat) = 2 ^ 64 - 1 := by decide
  rw [h2, Nat.testBit_xor, Nat.testBit_two_pow_sub_one, show 2 ^ 64 - 1 - x = 2 ^ 64 - (x + 1) by omega, Nat.testBit_two_pow_sub_succ (by omega)]
  by_cases hi : i < 64
  · simp [hi]
  · have : x.testBit i = false := Nat.testBit_lt_two_pow (Nat.lt_of_lt_of_le h (Nat.pow_le_pow_right (n := 2) (by omega) (by omega : 64 ≤ i)))
    simp [hi, this]

theorem key_c (x : Nat) (hx : x < 18446744073709551616) (w : World) : Calls Try.prog 67 #[.float .f64 x] w fun e w' => e = .returned (.int .u64 (Fl.key x)) ∧ w = w' := by
  unfold Fl.key
  cases h : Fl.nan x with
  | true =>
    have h1 : (Fl.F.order x x != some .eq) = true := by rw [Fl.neq_self, h]
    clear h
    go_enter Try.func67, Try.ntmps67
    go_wp2
    go_ret
    exact ⟨rfl, rfl⟩
  | false =>
    have h1 : (Fl.F.order x x != some .eq) = false := by rw [Fl.neq_self, h]
    clear h
    by_cases hb : 9223372036854775808 ≤ x
    · have h2 : ((x : Int) / 9223372036854775808 == 1) = true := by rw [beq_iff_eq]; omega
      simp only [Bool.false_eq_true, if_false, hb, if_true]
      rw [← xor64 hx]
      clear hb hx
      go_enter Try.func67, Try.ntmps67
      go_wp2
      go_ret
      exact ⟨rfl, rfl⟩
    · have h2 : ((x : Int) / 9223372036854775808 == 1) = false := by rw [beq_eq_false_iff_ne]; omega
      simp only [Bool.false_eq_true, if_false, hb]
      rw [← or63 (by omega)]
      clear hb hx
      go_enter Try.func67, Try.ntmps67
      go_wp2
      go_ret
      exact ⟨rfl, rfl⟩

theorem ordV_lt {a b : Nat} (h : Fl.key a < Fl.key b) : Fl.ordV a b = -1 := by unfold Fl.ordV; rw [if_pos h]
theorem ordV_gt {a b : Nat} (h : Fl.key b < Fl.key a) : Fl.ordV a b = 1 := by unfold Fl.ordV; rw [if_neg (by omega), if_pos h]
theorem ordV_eq {a b : Nat} (h : Fl.key a = Fl.key b) : Fl.ordV a b = 0 := by unfold Fl.ordV; rw [if_neg (by omega), if_neg (by omega)]

theorem order_c (a b : Nat) (ha : a < 18446744073709551616) (hb : b < 18446744073709551616) (w : World) :
    Calls Try.prog 54 #[.float .f64 a, .float .f64 b] w fun e w' => e = .returned (.int .i64 (Fl.ordV a b)) ∧ w = w' := by
  obtain ⟨p, hp⟩ : ∃ p, Fl.key a = p := ⟨_, rfl⟩
  obtain ⟨q, hq⟩ : ∃ q, Fl.key b = q := ⟨_, rfl⟩
  have ca := fun w => key_c a ha w
  have cb := fun w => key_c b hb w
  rw [hp] at ca
  rw [hq] at cb
  have key : ∀ r, Fl.ordV a b = r → ((p < q ∧ r = -1) ∨ (q < p ∧ r = 1) ∨ (p = q ∧ r = 0)) := by
    rintro r rfl
    rcases Nat.lt_trichotomy p q with h | h | h
    · exact .inl ⟨h, ordV_lt (by omega)⟩
    · exact .inr (.inr ⟨h, ordV_eq (by omega)⟩)
    · exact .inr (.inl ⟨h, ordV_gt (by omega)⟩)
  obtain ⟨r, hr⟩ : ∃ r, Fl.ordV a b = r := ⟨_, rfl⟩
  have hk := key r hr
  rw [hr]
  clear key hr hp hq
  have CA := Lib.hid ca
  have CB := Lib.hid cb
  clear ca cb
  rcases hk with ⟨h, rfl⟩ | ⟨h, rfl⟩ | ⟨h, rfl⟩
  · have h1 : decide ((p : Int) < (q : Int)) = true := decide_eq_true (by omega)
    go_enter Try.func54, Try.ntmps54
    go_wp2_with fail
    refine (CA.out _).mono ?_
    rintro e w' ⟨rfl, rfl⟩
    go_wp2_with fail
    refine (CB.out _).mono ?_
    rintro e w' ⟨rfl, rfl⟩
    go_wp2
    go_ret
    exact ⟨rfl, rfl⟩
  · have h1 : decide ((p : Int) < (q : Int)) = false := decide_eq_false (by omega)
    have h2 : decide ((q : Int) < (p : Int)) = true := decide_eq_true (by omega)
    go_enter Try.func54, Try.ntmps54
    go_wp2_with fail
    refine (CA.out _).mono ?_
    rintro e w' ⟨rfl, rfl⟩
    go_wp2_with fail
    refine (CB.out _).mono ?_
    rintro e w' ⟨rfl, rfl⟩
    go_wp2
    go_ret
    exact ⟨rfl, rfl⟩
  · subst h
    have h1 : decide ((p : Int) < (p : Int)) = false := decide_eq_false (by omega)
    go_enter Try.func54, Try.ntmps54
    go_wp2_with fail
    refine (CA.out _).mono ?_
    rintro e w' ⟨rfl, rfl⟩
    go_wp2_with fail
    refine (CB.out _).mono ?_
    rintro e w' ⟨rfl, rfl⟩
    go_wp2
    go_ret
    exact ⟨rfl, rfl⟩

end Go.Proofs.Ytfiimmbpfdpjfaa
