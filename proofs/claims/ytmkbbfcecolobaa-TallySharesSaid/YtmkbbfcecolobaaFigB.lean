/-
  Contracts of figure's and the document's functions of single floats, second part: quotients, classes.
-/
import Derived.Test.YtmkbbfcecolobaaFigA
namespace Go.Proofs.Ytmkbbfcecolobaa
open Go.RowKit
set_option linter.unusedSimpArgs false

/-- what an operation that may have no answer gives: its bits, or those of some NaN; how many answers it drew -/
def fa (op : BinOp) (x y : Nat) (w : World) : Nat := match floatBits op .f64 x y with
  | some r => r
  | none => Question.cut (.nanBits .f64 x y) (w.tape w.drawn (.nanBits .f64 x y))
def fn (op : BinOp) (x y : Nat) : Nat := if (floatBits op .f64 x y).isNone then 1 else 0

theorem run_fa {P : Program} (op : BinOp) (h : op = .add ∨ op = .mul ∨ op = .quo) (t : TypeId) (x y : Nat) (w : World) :
    (binOp op t (.float .f64 x) (.float .f64 y)).run P w = .ok (.float .f64 (fa op x y w)) (w.drewN (fn op x y)) := by
  unfold fa fn
  cases hf : floatBits op .f64 x y with
  | some r =>
    rw [run_float_arith (P := P) w op t .f64 x y r hf]
    rfl
  | none =>
    rcases h with rfl | rfl | rfl <;>
    · unfold floatBits at hf
      simp only at hf
      simp [binOp, Op.floatArith, hf]
      rw [if_neg (by simp [Question.forced])]
      rfl
@[go_sem] theorem run_add {P : Program} (t : TypeId) (x y : Nat) (w : World) : (binOp .add t (.float .f64 x) (.float .f64 y)).run P w = .ok (.float .f64 (fa .add x y w)) (w.drewN (fn .add x y)) := run_fa _ (.inl rfl) t x y w
@[go_sem] theorem run_mul {P : Program} (t : TypeId) (x y : Nat) (w : World) : (binOp .mul t (.float .f64 x) (.float .f64 y)).run P w = .ok (.float .f64 (fa .mul x y w)) (w.drewN (fn .mul x y)) := run_fa _ (.inr (.inl rfl)) t x y w
@[go_sem] theorem run_quo {P : Program} (t : TypeId) (x y : Nat) (w : World) : (binOp .quo t (.float .f64 x) (.float .f64 y)).run P w = .ok (.float .f64 (fa .quo x y w)) (w.drewN (fn .quo x y)) := run_fa _ (.inr (.inr rfl)) t x y w

theorem fa_some {op : BinOp} {x y r : Nat} (h : floatBits op .f64 x y = some r) (w : World) : fa op x y w = r := by unfold fa; rw [h]
theorem fa_none {op : BinOp} {x y : Nat} (h : floatBits op .f64 x y = none) (w : World) : Fl.nan (fa op x y w) = true := by
  unfold fa
  rw [h]
  simp only [Question.cut]
  generalize w.tape w.drawn (.nanBits .f64 x y) = t
  unfold Fl.nan Fl.rung
  rw [decide_eq_true_eq]
  rcases Nat.mod_two_eq_zero_or_one t with h2 | h2 <;> rw [h2] <;> omega
theorem fa_lt (op : BinOp) (x y : Nat) (w : World) : fa op x y w < 18446744073709551616 := by
  unfold fa
  cases hf : floatBits op .f64 x y with
  | some r =>
    have := floatBits_wf hf
    simpa [Lit.wf] using this
  | none =>
    simp only [Question.cut]
    generalize w.tape w.drawn (.nanBits .f64 x y) = t
    omega

/-- the one number, or the one NaN -/
def oneO : Option Nat → Nat
  | some r => onev r
  | none => theNan
theorem one_fa (op : BinOp) (x y : Nat) (w : World) : onev (fa op x y w) = oneO (floatBits op .f64 x y) := by
  cases h : floatBits op .f64 x y with
  | some r => rw [fa_some h]; rfl
  | none => unfold onev; rw [fa_none h, if_pos rfl]; rfl

theorem onev_lt {x : Nat} (h : x < 18446744073709551616) : onev x < 18446744073709551616 := by
  unfold onev theNan
  split <;> omega

def ratioV (a b : Int) : Nat := oneO (floatBits .quo .f64 (floatOfInt .f64 a) (floatOfInt .f64 b))
theorem ratio_c (a b : Int) (w : World) : Calls Try.prog 28 #[.int .i64 a, .int .i64 b] w fun e w' => e = .returned (.float .f64 (ratioV a b)) ∧ Drw w w' := by
  unfold ratioV
  go_enter Try.func28, Try.ntmps28
  go_wp2_with (go_at_call 45; refine (one_c _ _).mono ?_; rintro e w' ⟨rfl, rfl⟩)
  go_ret
  rw [one_fa]
  exact ⟨rfl, _, rfl⟩
theorem refRatio_c (a b : Int) (w : World) : Calls Try.prog 52 #[.int .i64 a, .int .i64 b] w fun e w' => e = .returned (.float .f64 (ratioV a b)) ∧ Drw w w' := by
  unfold ratioV
  go_enter Try.func52, Try.ntmps52
  go_wp2_with (go_at_call 41; refine (refOne_c _ _).mono ?_; rintro e w' ⟨rfl, rfl⟩)
  go_ret
  rw [one_fa]
  exact ⟨rfl, _, rfl⟩

/-- what a word is: 1 to 7 -/
def classV (x : Nat) : Int :=
  if Fl.nan x then 7
  else if 9223372036854775808 ≤ x then if Fl.rung x = 9218868437227405312 then 1 else if Fl.rung x = 0 then 3 else 2
  else if Fl.rung x = 9218868437227405312 then 6 else if Fl.rung x = 0 then 4 else 5

theorem neg_word {x : Nat} (h : x < 18446744073709551616) : Op.negFloat .f64 x = if 9223372036854775808 ≤ x then x - 9223372036854775808 else x + 9223372036854775808 := by
  show x ^^^ 2 ^ 63 = _
  have key : ∀ y, y < 9223372036854775808 → y ^^^ 2 ^ 63 = y + 9223372036854775808 := by
    intro y hy
    have h1 : 2 ^ 63 ^^^ y = 2 ^ 63 ||| y := by
      apply Nat.eq_of_testBit_eq
      intro i
      rw [Nat.testBit_xor, Nat.testBit_or, Nat.testBit_two_pow]
      by_cases hi : 63 = i
      · subst hi
        have : y.testBit 63 = false := Nat.testBit_lt_two_pow hy
        simp [this]
      · simp [hi]
    rw [Nat.xor_comm, h1]
    exact (Nat.two_pow_add_eq_or_of_lt (i := 63) hy 1).symm.trans (by omega)
  by_cases hb : 9223372036854775808 ≤ x
  · rw [if_pos hb]
    obtain ⟨y, rfl⟩ : ∃ y, x = y + 9223372036854775808 := ⟨x - 9223372036854775808, by omega⟩
    rw [← key y (by omega), Nat.xor_assoc, Nat.xor_self, Nat.xor_zero]
    rw [key y (by omega)]
    omega
  · rw [if_neg hb, key x (by omega)]

theorem far_up {x : Nat} (hx : x < 18446744073709551616) (hn : Fl.nan x = false) : (Fl.F.order x 9218868437227405311 == some .gt) = decide (x = 9218868437227405312) := by
  rw [Fl.gtr]
  unfold Fl.ltB
  rw [hn, show Fl.nan 9218868437227405311 = false by decide]
  have hn' : ¬ 9218868437227405312 < Fl.rung x := of_decide_eq_false hn
  simp only [Bool.not_false, Bool.and_self, Bool.true_and, decide_eq_decide]
  rw [show Fl.sv 9218868437227405311 = 9218868437227405311 by decide]
  unfold Fl.rung at hn'
  unfold Fl.sv Fl.neg Fl.rung
  by_cases hb : 9223372036854775808 ≤ x
  · have e1 : (x / 9223372036854775808 % 2 == 1) = true := by rw [beq_iff_eq]; omega
    rw [e1, if_pos rfl]; omega
  · have e1 : (x / 9223372036854775808 % 2 == 1) = false := by rw [beq_eq_false_iff_ne]; omega
    rw [e1, if_neg (by decide)]; omega

theorem isInf_down (x : Nat) (hx : x < 18446744073709551616) (hn : Fl.nan x = false) (w : World) :
    Calls Try.prog 46 #[.float .f64 x, .int .i64 (-1)] w fun e w' => e = .returned (.bool (decide (x = 18442240474082181120))) ∧ w = w' := by
  have hl : Op.negFloat .f64 x < 18446744073709551616 := by rw [neg_word hx]; split <;> omega
  have hnn : Fl.nan (Op.negFloat .f64 x) = false := by
    have hn' : ¬ 9218868437227405312 < Fl.rung x := of_decide_eq_false hn
    unfold Fl.nan
    rw [decide_eq_false_iff_not, neg_word hx]
    unfold Fl.rung at *
    split <;> omega
  have h1 := far_up hl hnn
  have h2 : decide (Op.negFloat .f64 x = 9218868437227405312) = decide (x = 18442240474082181120) := by
    rw [decide_eq_decide, neg_word hx]
    split <;> omega
  rw [h2] at h1
  generalize decide (x = 18442240474082181120) = b at *
  clear h2 hl hnn hn hx
  have hneg : ∀ w : World, (Op.unary .neg (.float .f64 x)).run Try.prog w = .ok (.float .f64 (Op.negFloat .f64 x)) w := fun _ => rfl
  go_enter Try.func46, Try.ntmps46
  go_wp2
  go_ret
  exact ⟨rfl, rfl⟩
theorem isInf_up (x : Nat) (hx : x < 18446744073709551616) (hn : Fl.nan x = false) (w : World) :
    Calls Try.prog 46 #[.float .f64 x, .int .i64 1] w fun e w' => e = .returned (.bool (decide (x = 9218868437227405312))) ∧ w = w' := by
  have h1 := far_up hx hn
  generalize decide (x = 9218868437227405312) = b at *
  clear hn hx
  go_enter Try.func46, Try.ntmps46
  go_wp2
  go_ret
  exact ⟨rfl, rfl⟩
theorem signbit_c (x : Nat) (hx : x < 18446744073709551616) (w : World) :
    Calls Try.prog 47 #[.float .f64 x] w fun e w' => e = .returned (.bool (decide (9223372036854775808 ≤ x))) ∧ w = w' := by
  go_enter Try.func47, Try.ntmps47
  go_wp2
  go_ret
  have e : decide (wrap64 (x : Int) < 0) = decide (9223372036854775808 ≤ x) := by
    rw [decide_eq_decide]; unfold wrap64; omega
  rw [e]
  exact ⟨rfl, rfl⟩

/-- what figure.Class asks of a number, one behind the other -/
theorem class_ask {x : Nat} (hx : x < 18446744073709551616) (hn : Fl.nan x = false) :
    (Fl.F.order x 0 == some .lt) = decide (9223372036854775808 < x) ∧ (Fl.F.order x 0 == some .gt) = decide (0 < x ∧ x < 9223372036854775808) := by
  have hn' : ¬ 9218868437227405312 < Fl.rung x := of_decide_eq_false hn
  rw [Fl.lss, Fl.gtr]
  unfold Fl.ltB
  rw [hn, show Fl.nan 0 = false by decide]
  simp only [Bool.not_false, Bool.and_self, Bool.true_and, decide_eq_decide]
  rw [show Fl.sv 0 = 0 by decide]
  unfold Fl.rung at hn'
  unfold Fl.sv Fl.neg Fl.rung
  by_cases hb : 9223372036854775808 ≤ x
  · have e1 : (x / 9223372036854775808 % 2 == 1) = true := by rw [beq_iff_eq]; omega
    rw [e1, if_pos rfl]; omega
  · have e1 : (x / 9223372036854775808 % 2 == 1) = false := by rw [beq_eq_false_iff_ne]; omega
    rw [e1, if_neg (by decide)]; omega

theorem class_c (x : Nat) (hx : x < 18446744073709551616) (w : World) :
    Calls Try.prog 30 #[.float .f64 x] w fun e w' => e = .returned (.int .i64 (classV x)) ∧ w = w' := by
  cases h : Fl.nan x with
  | true =>
    have h1 : (Fl.F.order x x != some .eq) = true := by rw [Fl.neq_self, h]
    have e : classV x = 7 := by unfold classV; rw [if_pos h]
    rw [e]
    clear h hx e
    go_enter Try.func30, Try.ntmps30
    go_wp2
    go_ret
    exact ⟨rfl, rfl⟩
  | false =>
    have h1 : (Fl.F.order x x != some .eq) = false := by rw [Fl.neq_self, h]
    have hn' : ¬ 9218868437227405312 < Fl.rung x := of_decide_eq_false h
    obtain ⟨hl, hg⟩ := class_ask hx h
    have C1 := Lib.hid (isInf_down x hx h)
    have C2 := Lib.hid (isInf_up x hx h)
    have C3 := Lib.hid (signbit_c x hx)
    have hv : classV x = if x = 18442240474082181120 then 1 else if x = 9218868437227405312 then 6 else if 9223372036854775808 < x then 2 else if 0 < x ∧ x < 9223372036854775808 then 5 else if 9223372036854775808 ≤ x then 3 else 4 := by
      unfold classV
      rw [h]
      simp only [Bool.false_eq_true, if_false]
      unfold Fl.rung at *
      clear hl hg C1 C2 C3 h h1
      repeat' split
      all_goals first | rfl | omega
    rw [hv]
    clear h hx hn' hv
    by_cases a1 : x = 18442240474082181120
    · rw [if_pos a1]
      rw [decide_eq_true a1] at C1
      clear a1
      go_enter Try.func30, Try.ntmps30
      go_wp2_with fail
      refine (C1.out _).mono ?_
      rintro e w' ⟨rfl, rfl⟩
      go_wp2
      go_ret
      exact ⟨rfl, rfl⟩
    · rw [if_neg a1]
      rw [decide_eq_false a1] at C1
      clear a1
      by_cases a2 : x = 9218868437227405312
      · rw [if_pos a2]
        rw [decide_eq_true a2] at C2
        clear a2
        go_enter Try.func30, Try.ntmps30
        go_wp2_with fail
        refine (C1.out _).mono ?_
        rintro e w' ⟨rfl, rfl⟩
        go_wp2_with fail
        refine (C2.out _).mono ?_
        rintro e w' ⟨rfl, rfl⟩
        go_wp2
        go_ret
        exact ⟨rfl, rfl⟩
      · rw [if_neg a2]
        rw [decide_eq_false a2] at C2
        clear a2
        by_cases a3 : 9223372036854775808 < x
        · rw [if_pos a3]
          rw [decide_eq_true a3] at hl
          clear a3
          go_enter Try.func30, Try.ntmps30
          go_wp2_with fail
          refine (C1.out _).mono ?_
          rintro e w' ⟨rfl, rfl⟩
          go_wp2_with fail
          refine (C2.out _).mono ?_
          rintro e w' ⟨rfl, rfl⟩
          go_wp2
          go_ret
          exact ⟨rfl, rfl⟩
        · rw [if_neg a3]
          rw [decide_eq_false a3] at hl
          clear a3
          by_cases a4 : 0 < x ∧ x < 9223372036854775808
          · rw [if_pos a4]
            rw [decide_eq_true a4] at hg
            clear a4
            go_enter Try.func30, Try.ntmps30
            go_wp2_with fail
            refine (C1.out _).mono ?_
            rintro e w' ⟨rfl, rfl⟩
            go_wp2_with fail
            refine (C2.out _).mono ?_
            rintro e w' ⟨rfl, rfl⟩
            go_wp2
            go_ret
            exact ⟨rfl, rfl⟩
          · rw [if_neg a4]
            rw [decide_eq_false a4] at hg
            clear a4
            by_cases a5 : 9223372036854775808 ≤ x
            · rw [if_pos a5]
              rw [decide_eq_true a5] at C3
              clear a5
              go_enter Try.func30, Try.ntmps30
              go_wp2_with fail
              refine (C1.out _).mono ?_
              rintro e w' ⟨rfl, rfl⟩
              go_wp2_with fail
              refine (C2.out _).mono ?_
              rintro e w' ⟨rfl, rfl⟩
              go_wp2_with fail
              refine (C3.out _).mono ?_
              rintro e w' ⟨rfl, rfl⟩
              go_wp2
              go_ret
              exact ⟨rfl, rfl⟩
            · rw [if_neg a5]
              rw [decide_eq_false a5] at C3
              clear a5
              go_enter Try.func30, Try.ntmps30
              go_wp2_with fail
              refine (C1.out _).mono ?_
              rintro e w' ⟨rfl, rfl⟩
              go_wp2_with fail
              refine (C2.out _).mono ?_
              rintro e w' ⟨rfl, rfl⟩
              go_wp2_with fail
              refine (C3.out _).mono ?_
              rintro e w' ⟨rfl, rfl⟩
              go_wp2
              go_ret
              exact ⟨rfl, rfl⟩

theorem class_bounds (x : Nat) : 1 ≤ classV x ∧ classV x ≤ 7 := by
  unfold classV
  split
  · omega
  · split
    · split
      · omega
      · split <;> omega
    · split
      · omega
      · split <;> omega

theorem refClass_c (x : Nat) (hx : x < 18446744073709551616) (w : World) :
    Calls Try.prog 48 #[.float .f64 x] w fun e w' => e = .returned (.int .i64 (classV x)) ∧ w = w' := by
  unfold classV
  cases h : Fl.nan x with
  | true =>
    have h1 : (Fl.F.order x x != some .eq) = true := by rw [Fl.neq_self, h]
    clear h hx
    go_enter Try.func48, Try.ntmps48
    go_wp2
    go_ret
    exact ⟨rfl, rfl⟩
  | false =>
    have h1 : (Fl.F.order x x != some .eq) = false := by rw [Fl.neq_self, h]
    simp only [Bool.false_eq_true, if_false]
    unfold Fl.rung
    have h2 : decide ((9223372036854775808 : Int) ≤ (x : Int)) = decide (9223372036854775808 ≤ x) := by rw [decide_eq_decide]; omega
    have h3 : ((x : Int) % 9223372036854775808 == 9218868437227405312) = decide (x % 9223372036854775808 = 9218868437227405312) := by
      rw [Bool.eq_iff_iff, beq_iff_eq, decide_eq_true_eq]; omega
    have h4 : ((x : Int) % 9223372036854775808 == 0) = decide (x % 9223372036854775808 = 0) := by
      rw [Bool.eq_iff_iff, beq_iff_eq, decide_eq_true_eq]; omega
    by_cases a : 9223372036854775808 ≤ x <;> by_cases b : x % 9223372036854775808 = 9218868437227405312 <;> by_cases c : x % 9223372036854775808 = 0
    all_goals first | omega | skip
    all_goals
      simp only [a, b, c, if_true, if_false, decide_true, decide_false] at h2 h3 h4 ⊢
      clear h hx a b c
      go_enter Try.func48, Try.ntmps48
      go_wp2
      go_ret
      exact ⟨rfl, rfl⟩
end Go.Proofs.Ytmkbbfcecolobaa
