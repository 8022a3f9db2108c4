/-
  Contracts of figure's and the document's functions of single floats, second part: quotients, classes.
-/
import Derived.Test.YtfiimmbpfdpjfaaFigA
namespace Go.Proofs.Ytfiimmbpfdpjfaa
open Go.RowKit
set_option linter.unusedSimpArgs false

/-- what an operation that may have no answer gives: its bits, or those of some NaN; how many answers it drew -/
def fa (op : BinOp) (x y : Nat) (w : World) : Nat := match floatBits op .f64 x y with
  | some r => r
  | none => Question.cut (.nanBits .f64 x y) (w.tape w.drawn (.nanBits .f64 x y))
def fn (op : BinOp) (x y : Nat) : Nat := if (floatBits op .f64 x y).isNone then 1 else 0

theorem run_fa {P : Program} (op : BinOp) (h : op = .add ∨ op = .mul ∨ op = .quo) (t : TypeId) (x y : Nat) (w : World) :
    (binOp op t (.float .f64 x) (.float .f64 y)).run P w = .ok (.float .f64 (fa op x y w)) (w.drewN (fn op x y)) := by
  unfold fa fn
  cases hf : floatBits op .f64 x y with
  | some r =>
    rw [run_float_arith (P := P) w op t .f64 x y r hf]
    rfl
  | none =>
    rcases h with rfl | rfl | rfl <;>
    · unfold floatBits at hf
      simp only at hf
      simp [binOp, Op.floatArith, hf]
      rw [if_neg (by simp [Question.forced])]
      rfl
@[go_sem] theorem run_add {P : Program} (t : TypeId) (x y : Nat) (w : World) : (binOp .add t (.float .f64 x) (.float .f64 y)).run P w = .ok (.float .f64 (fa .add x y w)) (w.drewN (fn .add x y)) := run_fa _ (.inl rfl) t x y w
@[go_sem] theorem run_mul {P : Program} (t : TypeId) (x y : Nat) (w : World) : (binOp .mul t (.float .f64 x) (.float .f64 y)).run P w = .ok (.float .f64 (fa .mul x y w)) (w.drewN (fn .mul x y)) := run_fa _ (.inr (.inl rfl)) t x y w
@[go_sem] theorem run_quo {P : Program} (t : TypeId) (x y : Nat) (w : World) : (binOp .quo t (.float .f64 x) (.float .f64 y)).run P w = .ok (.float .f64 (fa .quo x y w)) (w.drewN (fn .quo x y)) := run_fa _ (.inr (.inr rfl)) t x y w

theorem fa_some {op : BinOp} {x y r : Nat} (h : floatBits op .f64 x y = some r) (w : World) : fa op x y w = r := by unfold fa; rw [h]
theorem fa_none {op : BinOp} {x y : Nat} (h : floatBits op .f64 x y = none) (w : World) : Fl.nan (fa op x y w) = true := by
  unfold fa
  rw [h]
  simp only [Question.cut]
  generalize w.tape w.drawn (.nanBits .f64 x y) = t
  unfold Fl.nan Fl.rung
  rw [decide_eq_true_eq]
  rcases Nat.mod_two_eq_zero_or_one t with h2 | h2 <;> rw [h2] <;> omega
theorem fa_lt (op : BinOp) (x y : Nat) (w : World) : fa op x y w < 18446744073709551616 := by
  unfold fa
  cases hf : floatBits op .f64 x y with
  | some r =>
    have := floatBits_wf hf
    simpa [Lit.wf] using this
  | none =>
    simp only [Question.cut]
    generalize w.tape w.drawn (.nanBits .f64 x y) = t
    omega

/-- the one number, or the one NaN -/
def oneO : Option Nat → Nat
  | some r => onev r
  | none => theNan
theorem one_fa (op : BinOp) (x y : Nat) (w : World) : onev (fa op x y w) = oneO (floatBits op .f64 x y) := by
  cases h : floatBits op .f64 x y with
  | some r => rw [fa_some h]; rfl
  | none => unfold onev; rw [fa_none h, if_pos rfl]; rfl

theorem onev_lt {x : Nat} (h : x < 18446744073709551616) : onev x < 18446744073709551616 := by
  unfold onev theNan
  split <;> omega

def ratioV (a b : Int) : Nat := oneO (floatBits .quo .f64 (floatOfInt .f64 a) (floatOfInt .f64 b))
theorem ratio_c (a b : Int) (w : World) : Calls Try.prog 23 #[.int .i64 a, .int .i64 b] w fun e w' => e = .returned (.float .f64 (ratioV a b)) ∧ Drw w w' := by
  unfold ratioV
  go_enter Try.func23, Try.ntmps23
  go_wp2_with (go_at_call 18; refine (one_c _ _).mono ?_; rintro e w' ⟨rfl, rfl⟩)
  go_ret
  rw [one_fa]
  exact ⟨rfl, _, rfl⟩
theorem refRatio_c (a b : Int) (w : World) : Calls Try.prog 55 #[.int .i64 a, .int .i64 b] w fun e w' => e = .returned (.float .f64 (ratioV a b)) ∧ Drw w w' := by
  unfold ratioV
  go_enter Try.func55, Try.ntmps55
  go_wp2_with (go_at_call 35; refine (refOne_c _ _).mono ?_; rintro e w' ⟨rfl, rfl⟩)
  go_ret
  rw [one_fa]
  exact ⟨rfl, _, rfl⟩

/-- what a word is: 1 to 7 -/
def classV (x : Nat) : Int :=
  if Fl.nan x then 7
  else if 9223372036854775808 ≤ x then if Fl.rung x = 9218868437227405312 then 1 else if Fl.rung x = 0 then 3 else 2
  else if Fl.rung x = 9218868437227405312 then 6 else if Fl.rung x = 0 then 4 else 5

theorem neg_word {x : Nat} (h : x < 18446744073709551616) : Op.negFloat .f64 x = if 9223372036854775808 ≤ x then x - 9223372036854775808 else x + 9223372036854775808 := by
  show x ^^^ 2 ^ 63 = _
  have key : ∀ y, y < 9223372036854775808 → y ^^^ 2 ^ 63 = y + 9223372036854775808 := by
    intro y hy
    have h1 : 2 ^ 63 ^^^ y = 2 ^ 63 ||| y := by
      apply Nat.eq_of_testBit_eq
      intro i
      rw [Nat.testBit_xor, Nat.testBit_or, Nat.testBit_two_pow]
      by_cases hi : 63 = i
      · subst hi
        have : y.testBit 63 = false := Nat.testBit_lt_two_pow hy
        simp [this]
      · simp [hi]
    rw [Nat.xor_comm, h1]
    exact (Nat.two_pow_add_eq_or_of_lt (i := 63) hy 1).symm.trans (by omega)
  by_cases hb : 9223372036854775808 ≤ x
  · rw [if_pos hb]
    obtain ⟨y, rfl⟩ : ∃ y, x = y + 9223372036854775808 := ⟨x - 9223372036854775808, by omega⟩
    rw [← key y (by omega), Nat.xor_assoc, Nat.xor_self, Nat.xor_zero]
    rw [key y (by omega)]
    omega
  · rw [if_neg hb, key x (by omega)]

theorem far_up {x : Nat} (hx : x < 18446744073709551616) (hn : Fl.nan x = false) : (Fl.F.order x 9218868437227405311 == some .gt) = decide (x = 9218868437227405312) := by
  rw [Fl.gtr]
  unfold Fl.ltB
  rw [hn, show Fl.nan 9218868437227405311 = false by decide]
  have hn' : ¬ 9218868437227405312 < Fl.rung x := of_decide_eq_false hn
  simp only [Bool.not_false, Bool.and_self, Bool.true_and, decide_eq_decide]
  rw [show Fl.sv 9218868437227405311 = 9218868437227405311 by decide]
  unfold Fl.rung at hn'
  unfold Fl.sv Fl.neg Fl.rung
  by_cases hb : 9223372036854775808 ≤ x
  · have e1 : (x / 9223372036854775808 % 2 == 1) = true := by rw [beq_iff_eq]; omega
    rw [e1, if_pos rfl]; omega
  · have e1 : (x / 9223372036854775808 % 2 == 1) = false := by rw [beq_eq_false_iff_ne]; omega
    rw [e1, if_neg (by decide)]; omega

/-- what figure.Class asks of a number, one behind the other -/
theorem class_ask {x : Nat} (hx : x < 18446744073709551616) (hn : Fl.nan x = false) :
    (Fl.F.order x 0 == some .lt) = decide (9223372036854775808 < x) ∧ (Fl.F.order x 0 == some .gt) = decide (0 < x ∧ x < 9223372036854775808) := by
  have hn' : ¬ 9218868437227405312 < Fl.rung x := of_decide_eq_false hn
  rw [Fl.lss, Fl.gtr]
  unfold Fl.ltB
  rw [hn, show Fl.nan 0 = false by decide]
  simp only [Bool.not_false, Bool.and_self, Bool.true_and, decide_eq_decide]
  rw [show Fl.sv 0 = 0 by decide]
  unfold Fl.rung at hn'
  unfold Fl.sv Fl.neg Fl.rung
  by_cases hb : 9223372036854775808 ≤ x
  · have e1 : (x / 9223372036854775808 % 2 == 1) = true := by rw [beq_iff_eq]; omega
    rw [e1, if_pos rfl]; omega
  · have e1 : (x / 9223372036854775808 % 2 == 1) = false := by rw [beq_eq_false_iff_ne]; omega
    rw [e1, if_neg (by decide)]; omega

theorem class_bounds (x : Nat) : 1 ≤ classV x ∧ classV x ≤ 7 := by
  unfold classV
  split
  · omega
  · split
    · split
      · omega
      · split <;> omega
    · split
      · omega
      · split <;> omega

end Go.Proofs.Ytfiimmbpfdpjfaa
