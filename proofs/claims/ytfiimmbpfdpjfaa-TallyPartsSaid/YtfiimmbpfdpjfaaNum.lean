/-
  Floats up to the bits of what is no number: sums, products, quotients.
-/
import Derived.Test.YtfiimmbpfdpjfaaFigB
namespace Go.Proofs.Ytfiimmbpfdpjfaa
open Go.RowKit

/-- a number, or none -/
def nz (x : Nat) : Option Nat := if Fl.nan x then none else some x
def onN : Option Nat → Nat
  | some x => x
  | none => theNan
theorem onev_nz (x : Nat) : onev x = onN (nz x) := by
  unfold onev nz
  cases Fl.nan x <;> rfl
def opN (op : BinOp) (a b : Option Nat) : Option Nat := a.bind fun u => b.bind fun v => (floatBits op .f64 u v).bind nz

theorem nan_read {x : Nat} (h : Fl.nan x = true) : ∃ s t, Fl.F.read x = .nan s t := ⟨_, _, Fl.read_nan (of_decide_eq_true h)⟩
theorem bits_nan {op : BinOp} (h : op = .add ∨ op = .mul ∨ op = .quo) {x y : Nat} (hn : Fl.nan x = true ∨ Fl.nan y = true) : floatBits op .f64 x y = none := by
  rcases h with rfl | rfl | rfl <;> rcases hn with hn | hn <;> obtain ⟨s, t, e⟩ := nan_read hn
  · show Option.map _ (Ieee.Datum.sum (Fl.F.read x) (Fl.F.read y)) = none
    rw [e]; rfl
  · show Option.map _ (Ieee.Datum.sum (Fl.F.read x) (Fl.F.read y)) = none
    rw [e]; cases Fl.F.read x <;> rfl
  · show Option.map _ (Ieee.Datum.product (Fl.F.read x) (Fl.F.read y)) = none
    rw [e]; rfl
  · show Option.map _ (Ieee.Datum.product (Fl.F.read x) (Fl.F.read y)) = none
    rw [e]; cases Fl.F.read x <;> rfl
  · show Option.map _ (Ieee.Datum.quotient _ (Fl.F.read x) (Fl.F.read y)) = none
    rw [e]; rfl
  · show Option.map _ (Ieee.Datum.quotient _ (Fl.F.read x) (Fl.F.read y)) = none
    rw [e]; cases Fl.F.read x <;> rfl

theorem nz_fa {op : BinOp} (h : op = .add ∨ op = .mul ∨ op = .quo) (x y : Nat) (w : World) : nz (fa op x y w) = opN op (nz x) (nz y) := by
  cases hx : Fl.nan x with
  | true =>
    have e := bits_nan h (x := x) (y := y) (.inl hx)
    have e1 := fa_none e w
    unfold opN
    rw [show nz x = none by unfold nz; rw [hx]; rfl]
    unfold nz
    rw [e1]
    rfl
  | false =>
    cases hy : Fl.nan y with
    | true =>
      have e := bits_nan h (x := x) (y := y) (.inr hy)
      have e1 := fa_none e w
      unfold opN
      rw [show nz x = some x by unfold nz; rw [hx]; rfl, show nz y = none by unfold nz; rw [hy]; rfl]
      unfold nz
      rw [e1]
      rfl
    | false =>
      unfold opN
      rw [show nz x = some x by unfold nz; rw [hx]; rfl, show nz y = some y by unfold nz; rw [hy]; rfl]
      simp only [Option.bind_some]
      cases e : floatBits op .f64 x y with
      | none =>
        unfold nz
        rw [fa_none e w]
        rfl
      | some r => rw [fa_some e w]; rfl
theorem nz_add (x y : Nat) (w : World) : nz (fa .add x y w) = opN .add (nz x) (nz y) := nz_fa (.inl rfl) x y w
theorem nz_mul (x y : Nat) (w : World) : nz (fa .mul x y w) = opN .mul (nz x) (nz y) := nz_fa (.inr (.inl rfl)) x y w
theorem nz_quo (x y : Nat) (w : World) : nz (fa .quo x y w) = opN .quo (nz x) (nz y) := nz_fa (.inr (.inr rfl)) x y w
theorem nz_onN (a : Option Nat) (h : ∀ x, a = some x → Fl.nan x = false) : nz (onN a) = a := by
  cases a with
  | none =>
    show nz theNan = none
    unfold nz
    rw [show Fl.nan theNan = true by decide]; rfl
  | some x =>
    show nz x = some x
    unfold nz
    rw [h x rfl]; rfl
theorem opN_num {op : BinOp} {a b : Option Nat} {x : Nat} (h : opN op a b = some x) : Fl.nan x = false := by
  unfold opN at h
  obtain ⟨u, _, h⟩ := Option.bind_eq_some_iff.1 h
  obtain ⟨v, _, h⟩ := Option.bind_eq_some_iff.1 h
  obtain ⟨r, _, h⟩ := Option.bind_eq_some_iff.1 h
  unfold nz at h
  cases hr : Fl.nan r with
  | true => rw [hr] at h; cases h
  | false => rw [hr] at h; cases h; exact hr
theorem nz_num {x y : Nat} (h : nz x = some y) : Fl.nan y = false := by
  unfold nz at h
  cases hr : Fl.nan x with
  | true => rw [hr] at h; cases h
  | false => rw [hr] at h; cases h; exact hr
theorem onN_lt {a : Option Nat} (h : ∀ x, a = some x → x < 18446744073709551616) : onN a < 18446744073709551616 := by
  cases a with
  | none => show theNan < _; decide
  | some x => exact h x rfl
theorem opN_lt {op : BinOp} {a b : Option Nat} {x : Nat} (h : opN op a b = some x) : x < 18446744073709551616 := by
  unfold opN at h
  obtain ⟨u, _, h⟩ := Option.bind_eq_some_iff.1 h
  obtain ⟨v, _, h⟩ := Option.bind_eq_some_iff.1 h
  obtain ⟨r, hr, h⟩ := Option.bind_eq_some_iff.1 h
  have h1 := floatBits_wf hr
  unfold nz at h
  split at h
  · cases h
  · cases h
    simpa [Lit.wf] using h1

/-- all together, from the left: of what is (or is no) number; the first k -/
def sumK (ys : List (Option Nat)) : Nat → Option Nat
  | 0 => some 0
  | 1 => ys.getD 0 none
  | k + 1 => opN .add (sumK ys k) (ys.getD k none)
def sumN (ys : List (Option Nat)) : Option Nat := sumK ys ys.length
theorem sumK_one (ys : List (Option Nat)) : sumK ys 1 = ys.getD 0 none := rfl
theorem sumK_more (ys : List (Option Nat)) (k : Nat) (h : 0 < k) : sumK ys (k + 1) = opN .add (sumK ys k) (ys.getD k none) := by
  obtain ⟨j, rfl⟩ : ∃ j, k = j + 1 := ⟨k - 1, by omega⟩
  rfl
theorem getD_nz (xs : List Nat) (k : Nat) (h : k < xs.length) : (xs.map nz).getD k none = nz (xs.getD k 0) := by
  simp [List.getD_eq_getElem?_getD, List.getElem?_eq_getElem h]
/-- Sum of a list of words -/
def sumV (xs : List Nat) : Nat := onN (sumN (xs.map nz))
end Go.Proofs.Ytfiimmbpfdpjfaa
