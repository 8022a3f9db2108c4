/-
  Sixteen digits there and back, on lists of bytes.
-/
import Derived.Test.YtplejggfeehbcaaFigE
namespace Go.Proofs.Ytplejggfeehbcaa
open Go.RowKit

/-- the digit that a byte stands for -/
def hv (c : UInt8) : Option Nat :=
  if 48 ≤ c.toNat ∧ c.toNat ≤ 57 then some (c.toNat - 48)
  else if 97 ≤ c.toNat ∧ c.toNat ≤ 102 then some (c.toNat - 87) else none
theorem hv_lt {c : UInt8} {d : Nat} (h : hv c = some d) : d < 16 := by
  unfold hv at h
  split at h
  · cases h; omega
  · split at h
    · cases h; omega
    · cases h
theorem hv_hexb (d : Nat) (h : d < 16) : hv (hexb d) = some d := by
  have : d = 0 ∨ d = 1 ∨ d = 2 ∨ d = 3 ∨ d = 4 ∨ d = 5 ∨ d = 6 ∨ d = 7 ∨ d = 8 ∨ d = 9 ∨ d = 10 ∨ d = 11 ∨ d = 12 ∨ d = 13 ∨ d = 14 ∨ d = 15 := by omega
  rcases this with rfl | rfl | rfl | rfl | rfl | rfl | rfl | rfl | rfl | rfl | rfl | rfl | rfl | rfl | rfl | rfl <;> decide
theorem hexb_hv {c : UInt8} {d : Nat} (h : hv c = some d) : hexb d = c := by
  apply UInt8.toNat_inj.1
  have hc : c.toNat < 256 := c.toNat_lt
  unfold hv at h
  split at h
  · cases h
    unfold hexb
    rw [if_pos (by omega)]
    simp
    omega
  · split at h
    · cases h
      unfold hexb
      rw [if_neg (by omega)]
      simp
      omega
    · cases h

/-- the number of the first k digits -/
def rdk (l : List UInt8) : Nat → Option Nat
  | 0 => some 0
  | k + 1 => match rdk l k, hv (l.getD k 0) with
    | some b, some d => some (16 * b + d)
    | _, _ => none
theorem rdk_lt {l : List UInt8} {k b : Nat} (h : rdk l k = some b) : b < 16 ^ k := by
  induction k generalizing b with
  | zero => cases h; decide
  | succ k ih =>
    unfold rdk at h
    split at h
    · rename_i b0 d e1 e2
      cases h
      have h1 := ih e1
      have h2 := hv_lt e2
      rw [Nat.pow_succ]
      omega
    · cases h
theorem rdk_none {l : List UInt8} {k : Nat} (h : rdk l k = none) : ∀ m, k ≤ m → rdk l m = none := by
  intro m hm
  induction m with
  | zero => have : k = 0 := by omega
            subst this; exact h
  | succ m ih =>
    by_cases e : k = m + 1
    · rw [← e]; exact h
    · unfold rdk
      rw [ih (by omega)]

theorem rdk_text (b : Nat) (hb : b < 18446744073709551616) : ∀ k, k ≤ 16 → rdk (textL b) k = some (b / 16 ^ (16 - k)) := by
  intro k hk
  induction k with
  | zero =>
    unfold rdk
    rw [show 16 ^ (16 - 0) = 18446744073709551616 by decide, Nat.div_eq_of_lt hb]
  | succ k ih =>
    have hg : (textL b).getD k 0 = hexb (dig b k) := by
      unfold textL
      rw [List.getD_eq_getElem?_getD, List.getElem?_map, List.getElem?_range (by omega)]
      rfl
    unfold rdk
    rw [ih (by omega), hg, hv_hexb _ (by unfold dig; omega)]
    simp only [Option.some.injEq]
    unfold dig
    have e1 : 16 - k = (15 - k) + 1 := by omega
    have e2 : 16 - (k + 1) = 15 - k := by omega
    rw [e1, e2, Nat.pow_succ, ← Nat.div_div_eq_div_mul]
    omega

theorem text_rdk {l : List UInt8} (hl : l.length = 16) {b : Nat} (h : rdk l 16 = some b) : textL b = l := by
  have key : ∀ k, k ≤ 16 → ∃ c, rdk l k = some c ∧ b / 16 ^ (16 - k) = c := by
    intro k hk
    obtain ⟨j, hj⟩ : ∃ j, 16 - k = j := ⟨_, rfl⟩
    rw [hj]
    induction j generalizing k with
    | zero =>
      have : k = 16 := by omega
      subst this
      exact ⟨b, h, by simp⟩
    | succ j ih =>
      obtain ⟨c, h1, h2⟩ := ih (k + 1) (by omega) (by omega)
      unfold rdk at h1
      split at h1
      · rename_i b0 d e1 e2
        cases h1
        refine ⟨b0, e1, ?_⟩
        have := hv_lt e2
        rw [Nat.pow_succ, ← Nat.div_div_eq_div_mul, h2]
        omega
      · cases h1
  apply List.ext_getElem?
  intro m
  by_cases hm : m < 16
  · have hg : (textL b)[m]? = some (hexb (dig b m)) := by
      unfold textL
      rw [List.getElem?_map, List.getElem?_range hm]
      rfl
    rw [hg, List.getElem?_eq_getElem (by omega)]
    obtain ⟨c, h1, h2⟩ := key (m + 1) (by omega)
    unfold rdk at h1
    split at h1
    · rename_i b0 d e1 e2
      cases h1
      have hd := hv_lt e2
      have hh := hexb_hv e2
      rw [List.getD_eq_getElem?_getD, List.getElem?_eq_getElem (by omega), Option.getD_some] at hh
      congr 1
      rw [← hh]
      congr 1
      unfold dig
      rw [show 15 - m = 16 - (m + 1) by omega, h2]
      omega
    · cases h1
  · have h1 : (textL b).length = 16 := by simp [textL]
    rw [List.getElem?_eq_none (by omega), List.getElem?_eq_none (by omega)]

/-- what Read answers: a word, and whether it is one -/
def readV (l : List UInt8) : Nat × Bool :=
  if l.length = 16 then
    match rdk l 16 with
    | some b => if onev b = b then (b, true) else (0, false)
    | none => (0, false)
  else (0, false)
theorem onev_onev (x : Nat) : onev (onev x) = onev x := by
  unfold onev
  cases h : Fl.nan x with
  | true =>
    simp only [if_true]
    rw [show Fl.nan theNan = true by decide, if_pos rfl]
  | false => simp only [Bool.false_eq_true, if_false]; rw [h]; simp
theorem read_text (x : Nat) (hx : x < 18446744073709551616) : readV (textL (onev x)) = (onev x, true) := by
  have h1 : (textL (onev x)).length = 16 := by simp [textL]
  have h2 := rdk_text (onev x) (onev_lt hx) 16 (by omega)
  unfold readV
  rw [if_pos h1, h2]
  simp only [Nat.sub_self, Nat.pow_zero, Nat.div_one]
  rw [if_pos (onev_onev x)]
theorem readV_lt (l : List UInt8) : (readV l).1 < 18446744073709551616 := by
  unfold readV
  split
  · split
    · rename_i b h
      have := rdk_lt h
      split
      · show b < _
        rw [show (18446744073709551616 : Nat) = 16 ^ 16 by decide]; exact this
      · show 0 < _; decide
    · show 0 < _; decide
  · show 0 < _; decide
theorem read_back {l : List UInt8} (h : (readV l).2 = true) : textL (onev (readV l).1) = l := by
  unfold readV at h ⊢
  split at h
  · rename_i hl
    rw [if_pos hl]
    split at h
    · rename_i b hb
      split at h
      · rename_i ho
        simp only [ho, if_true]
        exact text_rdk hl hb
      · cases h
    · cases h
  · cases h
end Go.Proofs.Ytplejggfeehbcaa
