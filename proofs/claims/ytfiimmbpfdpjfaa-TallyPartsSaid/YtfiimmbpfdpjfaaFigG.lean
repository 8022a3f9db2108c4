/-
  The document's first, Least, Most: two loops within one another that read a slice of floats.
-/
import Derived.Test.YtfiimmbpfdpjfaaFigD
import Derived.LoopTactic
import Derived.Deep.QuietTactic
import Derived.BigQuiet
namespace Go.Proofs.Ytfiimmbpfdpjfaa
open Go.RowKit
set_option linter.unusedSimpArgs false

/-- j forbids i -/
def forb (xs : List Nat) (way : Int) (i j : Nat) : Bool :=
  !Fl.nan (xs.getD j 0) && (Fl.ordV (xs.getD j 0) (xs.getD i 0) == way || (Fl.ordV (xs.getD j 0) (xs.getD i 0) == 0 && decide (j < i)))
def Qual (xs : List Nat) (way : Int) (n i : Nat) : Prop := i < n ∧ Fl.nan (xs.getD i 0) = false ∧ ∀ j, j < n → forb xs way i j = false

theorem ord_key (a b : Nat) : (Fl.ordV a b = -1 ↔ Fl.key a < Fl.key b) ∧ (Fl.ordV a b = 1 ↔ Fl.key b < Fl.key a) ∧ (Fl.ordV a b = 0 ↔ Fl.key a = Fl.key b) := by
  rcases Nat.lt_trichotomy (Fl.key a) (Fl.key b) with h | h | h
  · rw [ordV_lt h]; omega
  · rw [ordV_eq h]; omega
  · rw [ordV_gt h]; omega

theorem forb_no {xs : List Nat} {way : Int} {i j : Nat} (hn : Fl.nan (xs.getD j 0) = false) :
    forb xs way i j = false ↔ Fl.ordV (xs.getD j 0) (xs.getD i 0) ≠ way ∧ ¬ (Fl.ordV (xs.getD j 0) (xs.getD i 0) = 0 ∧ j < i) := by
  unfold forb
  rw [hn]
  simp only [Bool.not_false, Bool.true_and, Bool.or_eq_false_iff, beq_eq_false_iff_ne, Bool.and_eq_false_iff, decide_eq_false_iff_not]
  constructor
  · rintro ⟨h1, h2 | h2⟩
    · exact ⟨h1, fun h => h2 h.1⟩
    · exact ⟨h1, fun h => h2 h.2⟩
  · rintro ⟨h1, h2⟩
    refine ⟨h1, ?_⟩
    by_cases e : Fl.ordV (xs.getD j 0) (xs.getD i 0) = 0
    · exact .inr fun h => h2 ⟨e, h⟩
    · exact .inl e

theorem bestAt_qual (xs : List Nat) (way : Int) (hw : way = 1 ∨ way = -1) (k : Nat) :
    (bestAt xs way k = -1 ∧ ∀ j, j < k → Fl.nan (xs.getD j 0) = true) ∨ (0 ≤ bestAt xs way k ∧ Qual xs way k (bestAt xs way k).toNat) := by
  induction k with
  | zero => exact .inl ⟨rfl, fun j hj => by omega⟩
  | succ k ih =>
    simp only [bestAt]
    have hb := bestAt_bounds xs way k
    generalize hx : xs.getD k 0 = x
    cases hn : Fl.nan x with
    | true =>
      rw [if_neg (by simp)]
      rcases ih with ⟨h1, h2⟩ | ⟨h1, h2, h3, h4⟩
      · refine .inl ⟨h1, fun j hj => ?_⟩
        by_cases e : j = k
        · rw [e, hx, hn]
        · exact h2 j (by omega)
      · refine .inr ⟨h1, by omega, h3, fun j hj => ?_⟩
        by_cases e : j = k
        · unfold forb; rw [e, hx, hn]; rfl
        · exact h4 j (by omega)
    | false =>
      rcases ih with ⟨h1, h2⟩ | ⟨h1, h2, h3, h4⟩
      · rw [if_pos ⟨rfl, .inl (by omega)⟩]
        refine .inr ⟨by omega, by omega, by rw [Int.toNat_natCast, hx]; exact hn, fun j hj => ?_⟩
        by_cases e : j = k
        · have : forb xs way k k = false := by
            rw [forb_no (by rw [hx]; exact hn)]
            have := (ord_key (xs.getD k 0) (xs.getD k 0))
            omega
          rw [e]; simpa using this
        · unfold forb; rw [h2 j (by omega)]; rfl
      · generalize ht : (bestAt xs way k).toNat = t at *
        generalize hy : xs.getD t 0 = y at *
        have ho := ord_key x y
        by_cases hc : Fl.ordV x y = way
        · rw [if_pos ⟨rfl, .inr hc⟩]
          refine .inr ⟨by omega, by omega, by rw [Int.toNat_natCast, hx]; exact hn, fun j hj => ?_⟩
          simp only [Int.toNat_natCast]
          cases hj2 : Fl.nan (xs.getD j 0) with
          | true => unfold forb; rw [hj2]; rfl
          | false =>
            rw [forb_no hj2, hx]
            by_cases e : j = k
            · rw [e, hx]
              have := ord_key x x
              omega
            · have h5 := h4 j (by omega)
              rw [forb_no hj2, hy] at h5
              have o1 := ord_key (xs.getD j 0) x
              have o2 := ord_key (xs.getD j 0) y
              rcases hw with rfl | rfl <;> omega
        · rw [if_neg (by rintro ⟨_, h | h⟩; · omega
                         · exact hc h)]
          refine .inr ⟨h1, by omega, by rw [ht, hy]; exact h3, fun j hj => ?_⟩
          rw [ht]
          by_cases e : j = k
          · rw [e, forb_no (by rw [hx]; exact hn), hx, hy]
            omega
          · exact h4 j (by omega)

theorem qual_one {xs : List Nat} {way : Int} (hw : way = 1 ∨ way = -1) {n i j : Nat} (hi : Qual xs way n i) (hj : Qual xs way n j) : i = j := by
  have key : ∀ i j, Qual xs way n i → Qual xs way n j → ¬ i < j := by
    intro i j hi hj hlt
    have h1 := hi.2.2 j hj.1
    have h2 := hj.2.2 i hi.1
    rw [forb_no hj.2.1] at h1
    rw [forb_no hi.2.1] at h2
    have o1 := ord_key (xs.getD i 0) (xs.getD j 0)
    have o2 := ord_key (xs.getD j 0) (xs.getD i 0)
    rcases hw with rfl | rfl <;> omega
  have := key i j hi hj
  have := key j i hj hi
  omega
theorem qual_best {xs : List Nat} {way : Int} (hw : way = 1 ∨ way = -1) {n i : Nat} (hi : Qual xs way n i) : bestAt xs way n = i := by
  rcases bestAt_qual xs way hw n with ⟨_, h2⟩ | ⟨h1, h2⟩
  · have := h2 i hi.1
    rw [hi.2.1] at this
    cases this
  · have := qual_one hw hi h2
    omega
theorem no_qual {xs : List Nat} {way : Int} (hw : way = 1 ∨ way = -1) {n : Nat} (h : ∀ i, i < n → ¬ Qual xs way n i) : bestAt xs way n = -1 := by
  rcases bestAt_qual xs way hw n with ⟨h1, _⟩ | ⟨_, h2⟩
  · exact h1
  · exact absurd h2 (h _ h2.1)

theorem Drw.step {w w' : World} (h : Drw w w') (n : Nat) : Drw w (w'.drewN n) := by
  obtain ⟨m, rfl⟩ := h
  exact ⟨m + n, World.drewN_drewN ..⟩
theorem Drw.trans {w w1 w2 : World} (h : Drw w w1) (k : Drw w1 w2) : Drw w w2 := by
  obtain ⟨m, rfl⟩ := k
  exact h.step m
theorem Drw.cell {w w' : World} (h : Drw w w') (a : Addr) : w'.cell? a = w.cell? a := by
  obtain ⟨n, rfl⟩ := h; rfl

theorem forb_more {xs : List Nat} {way : Int} {k m s : Nat} (h : s = 0 ↔ ∀ q, q < m → forb xs way k q = false) (hf : forb xs way k m = false) : s = 0 ↔ ∀ q, q < m + 1 → forb xs way k q = false := by
  rw [h]
  constructor
  · intro g q hq
    by_cases e : q = m
    · rw [e]; exact hf
    · exact g q (by omega)
  · intro g q hq
    exact g q (by omega)
theorem forb_hit {xs : List Nat} {way : Int} {k m s : Nat} (hf : forb xs way k m = true) : s + 1 = 0 ↔ ∀ q, q < m + 1 → forb xs way k q = false := by
  constructor
  · intro h; omega
  · intro g
    have := g m (by omega)
    rw [hf] at this
    cases this
theorem no_more {xs : List Nat} {way : Int} {n k : Nat} (h : ∀ j, j < k → ¬ Qual xs way n j) (hk : ¬ Qual xs way n k) : ∀ j, j < k + 1 → ¬ Qual xs way n j := by
  intro j hj
  by_cases e : j = k
  · rw [e]; exact hk
  · exact h j (by omega)

theorem bestV_len {xs : List Nat} {n : Nat} (h : xs.length = n) (way : Int) : bestV xs way = if bestAt xs way n < 0 then (theNan, -1) else (xs.getD (bestAt xs way n).toNat 0, bestAt xs way n) := by
  subst h; rfl

end Go.Proofs.Ytfiimmbpfdpjfaa
