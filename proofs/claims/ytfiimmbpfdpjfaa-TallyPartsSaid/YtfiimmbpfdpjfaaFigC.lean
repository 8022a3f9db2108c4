/-
  The document's order of two floats is the code's.
-/
import Derived.Test.YtfiimmbpfdpjfaaFigB
namespace Go.Proofs.Ytfiimmbpfdpjfaa
open Go.RowKit
set_option linter.unusedSimpArgs false

def refOrdV (a b : Nat) : Int :=
  if classV a < classV b ∨ (classV a = classV b ∧ Fl.ltB a b = true) then -1
  else if classV b < classV a ∨ (classV a = classV b ∧ Fl.ltB b a = true) then 1 else 0

theorem key_class {a b : Nat} (ha : a < 18446744073709551616) (hb : b < 18446744073709551616) :
    Fl.key a < Fl.key b ↔ (classV a < classV b ∨ (classV a = classV b ∧ Fl.ltB a b = true)) := by
  have key : ∀ x, x < 18446744073709551616 → ∃ n : Bool, Fl.nan x = n ∧ (n = true → 9218868437227405312 < x % 9223372036854775808) ∧ (n = false → x % 9223372036854775808 ≤ 9218868437227405312) := by
    intro x _
    refine ⟨_, rfl, fun h => ?_, fun h => ?_⟩
    · exact of_decide_eq_true h
    · have := of_decide_eq_false h
      unfold Fl.rung at this
      omega
  obtain ⟨n, hn, n1, n0⟩ := key a ha
  obtain ⟨m, hm, m1, m0⟩ := key b hb
  have hs : ∀ x, x < 18446744073709551616 → Fl.sv x = if 9223372036854775808 ≤ x then -((x % 9223372036854775808 : Nat) : Int) else ((x % 9223372036854775808 : Nat) : Int) := by
    intro x hx
    unfold Fl.sv Fl.neg Fl.rung
    by_cases h : 9223372036854775808 ≤ x
    · have e1 : (x / 9223372036854775808 % 2 == 1) = true := by rw [beq_iff_eq]; omega
      rw [e1, if_pos rfl, if_pos h]
    · have e1 : (x / 9223372036854775808 % 2 == 1) = false := by rw [beq_eq_false_iff_ne]; omega
      rw [e1, if_neg (by decide), if_neg h]
  unfold Fl.ltB classV Fl.key
  rw [hn, hm, hs a ha, hs b hb]
  unfold Fl.rung
  cases n with
  | true =>
    cases m with
    | true => simp
    | false =>
      have := m0 rfl
      simp only [if_true, Bool.false_eq_true, if_false, Bool.not_true, Bool.false_and, and_false, or_false]
      constructor
      · intro h; split at h <;> omega
      · intro h
        split at h
        · split at h
          · omega
          · split at h <;> omega
        · split at h
          · omega
          · split at h <;> omega
  | false =>
    have := n0 rfl
    cases m with
    | true =>
      simp only [if_true, Bool.false_eq_true, if_false, Bool.not_true, Bool.and_false, Bool.false_and, and_false, or_false]
      constructor
      · intro _
        split
        · split
          · omega
          · split <;> omega
        · split
          · omega
          · split <;> omega
      · intro _
        split <;> omega
    | false =>
      have := m0 rfl
      simp only [Bool.false_eq_true, if_false, Bool.not_false, Bool.and_self, Bool.true_and, decide_eq_true_eq]
      by_cases ca : 9223372036854775808 ≤ a <;> by_cases cb : 9223372036854775808 ≤ b <;> simp only [ca, cb, if_true, if_false]
      all_goals
        by_cases c1 : a % 9223372036854775808 = 9218868437227405312 <;> by_cases c2 : b % 9223372036854775808 = 9218868437227405312 <;>
        by_cases c3 : a % 9223372036854775808 = 0 <;> by_cases c4 : b % 9223372036854775808 = 0
        all_goals simp only [c1, c2, c3, c4, if_true, if_false, true_and]
        all_goals constructor
        all_goals intro h
        all_goals omega

theorem refOrd_eq {a b : Nat} (ha : a < 18446744073709551616) (hb : b < 18446744073709551616) : refOrdV a b = Fl.ordV a b := by
  unfold refOrdV Fl.ordV
  have h1 := key_class ha hb
  have h2 := key_class hb ha
  have e : (classV b < classV a ∨ classV b = classV a ∧ Fl.ltB b a = true) ↔ (classV b < classV a ∨ classV a = classV b ∧ Fl.ltB b a = true) := by
    rw [@eq_comm _ (classV b) (classV a)]
  rw [e] at h2
  by_cases c1 : Fl.key a < Fl.key b
  · rw [if_pos c1, if_pos (h1.1 c1)]
  · rw [if_neg c1, if_neg (fun h => c1 (h1.2 h))]
    by_cases c2 : Fl.key b < Fl.key a
    · rw [if_pos c2, if_pos (h2.1 c2)]
    · rw [if_neg c2, if_neg (fun h => c2 (h2.2 h))]

end Go.Proofs.Ytfiimmbpfdpjfaa
