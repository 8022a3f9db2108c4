/-
  What FigureSorted asks of a sorted list of places, in plain Lean.
-/
import Derived.Test.YtmkbbfcecolobaaSrtL
namespace Go.Proofs.Ytmkbbfcecolobaa
open Go.RowKit Srt
set_option linter.unusedSimpArgs false

theorem key_num {x : Nat} (hx : x < 18446744073709551616) (h : Fl.nan x = false) : Fl.key x < 18446744073709551615 := by
  have h1 : ¬ 9218868437227405312 < x % 9223372036854775808 := of_decide_eq_false h
  unfold Fl.key
  rw [h, if_neg (by decide)]
  split <;> omega
theorem key_nan {x : Nat} (h : Fl.nan x = true) : Fl.key x = 18446744073709551615 := by unfold Fl.key; rw [if_pos h]
abbrev numAt (xs : List Nat) : Nat → Bool := fun t => !Fl.nan (xs.getD t 0)
theorem threshold {p : Nat → Bool} : ∀ {n : Nat}, (∀ s t, s < t → t < n → p t = true → p s = true) → ∃ m, m ≤ n ∧ ∀ t, t < n → p t = decide (t < m)
  | 0, _ => ⟨0, Nat.le_refl _, fun _ h => by omega⟩
  | n + 1, h => by
    obtain ⟨m, h1, h2⟩ := threshold (p := p) (n := n) fun s t hs ht => h s t hs (by omega)
    cases hp : p n with
    | true =>
      refine ⟨n + 1, Nat.le_refl _, fun t ht => ?_⟩
      rw [decide_eq_true ht]
      by_cases e : t = n
      · rw [e]; exact hp
      · exact h t n (by omega) (by omega) hp
    | false =>
      refine ⟨m, by omega, fun t ht => ?_⟩
      by_cases e : t = n
      · rw [e, hp, decide_eq_false (by omega)]
      · exact h2 t (by omega)
section
variable {w : World} {A : Option Addr} {n : Nat} {xs : List Nat} {f : Nat → Nat}
/-- how many numbers there are, and where they stand -/
theorem numbers_first (hF : Fs w A n xs) (hm : Mv 0 n (fun k => k) f) (hs : Sorted (keyAt xs) f 0 n) : ∃ m, m ≤ n ∧ (∀ t, t < n → numAt xs (f t) = decide (t < m)) ∧ cnt (numAt xs) n = m := by
  obtain ⟨m, h1, h2⟩ := threshold (p := fun t => numAt xs (f t)) (n := n) fun s t hst ht hp => by
    cases hq : Fl.nan (xs.getD (f s) 0) with
    | false => show (!Fl.nan _) = true; rw [hq]; rfl
    | true =>
      have e1 : Fl.nan (xs.getD (f t) 0) = false := by
        cases hq : Fl.nan (xs.getD (f t) 0) with
        | false => rfl
        | true => exact absurd hp (by show ¬ (!Fl.nan _) = true; rw [hq]; decide)
      have e2 : Fl.key (xs.getD (f s) 0) = _ := key_nan hq
      have e3 := key_num (hF.word (f t)) e1
      have e4 : Fl.key (xs.getD (f s) 0) ≤ Fl.key (xs.getD (f t) 0) := (hs s t (Nat.zero_le _) hst ht).le
      omega
  refine ⟨m, h1, h2, ?_⟩
  have hl : ∀ k, k < n → f k < n := fun k hk => by
    obtain ⟨t, _, q2, q3⟩ := hm.at_ k (Nat.zero_le _) hk
    rw [q3]; exact q2
  have hin : Inj f := hm.inj fun _ _ e => e
  rw [cnt_congr (q := firstOf f m), cnt_first hin hl m h1]
  intro k hk
  obtain ⟨t, _, q2, q3⟩ := hm.symm.at_ k (Nat.zero_le _) hk
  rw [q3, h2 t q2]
  by_cases c : t < m
  · rw [decide_eq_true c]; exact (firstOf_iff.2 ⟨t, c, rfl⟩).symm
  · rw [decide_eq_false c]
    cases hf : firstOf f m (f t) with
    | false => rfl
    | true =>
      obtain ⟨u, q4, q5⟩ := firstOf_iff.1 hf
      have := hin _ _ q5
      omega
theorem no_numbers (h : ∀ t, t < n → numAt xs t = false) (way : Int) (hw : way = 1 ∨ way = -1) : bestAt xs way n = -1 :=
  no_qual hw fun i hi hq => by
    have := h i hi
    have q := hq.2.1
    rw [show numAt xs i = (!Fl.nan (xs.getD i 0)) from rfl, q] at this
    cases this
theorem least_first (hm : Mv 0 n (fun k => k) f) (hs : Sorted (keyAt xs) f 0 n) (h0 : 0 < n) (h1 : numAt xs (f 0) = true) : bestAt xs (-1) n = f 0 := by
  have hl : f 0 < n := by
    obtain ⟨t, _, q2, q3⟩ := hm.at_ 0 (Nat.zero_le _) h0
    rw [q3]; exact q2
  refine qual_best (.inr rfl) ⟨hl, by simpa [numAt] using h1, fun j hj => ?_⟩
  cases hn : Fl.nan (xs.getD j 0) with
  | true => unfold forb; rw [hn]; rfl
  | false =>
    rw [forb_no hn]
    have o := ord_key (xs.getD j 0) (xs.getD (f 0) 0)
    obtain ⟨t, _, q2, q3⟩ := hm.symm.at_ j (Nat.zero_le _) hj
    by_cases e : t = 0
    · subst e
      rw [← q3] at o ⊢
      omega
    · have hq := hs 0 t (Nat.zero_le _) (by omega) q2
      rw [← q3] at hq
      have hq2 : Fl.key (xs.getD (f 0) 0) < Fl.key (xs.getD j 0) ∨ (Fl.key (xs.getD (f 0) 0) = Fl.key (xs.getD j 0) ∧ f 0 < j) := hq
      omega
theorem most_last {m : Nat} (hm : Mv 0 n (fun k => k) f) (hs : Sorted (keyAt xs) f 0 n) (hmn : m ≤ n) (h0 : 0 < m) (h1 : ∀ t, t < n → numAt xs (f t) = decide (t < m)) :
    ∃ k : Nat, bestAt xs 1 n = k ∧ k < n ∧ Fl.ordV (xs.getD k 0) (xs.getD (f (m - 1)) 0) = 0 := by
  have hnum : ∀ t, t < m → Fl.nan (xs.getD (f t) 0) = false := fun t ht => by
    have := h1 t (by omega)
    rw [decide_eq_true ht] at this
    simpa [numAt] using this
  have hl : ∀ k, k < n → f k < n := fun k hk => by
    obtain ⟨t, _, q2, q3⟩ := hm.at_ k (Nat.zero_le _) hk
    rw [q3]; exact q2
  rcases bestAt_qual xs 1 (.inl rfl) n with ⟨_, h2⟩ | ⟨h2, h3⟩
  · have := h2 (f 0) (hl 0 (by omega))
    rw [hnum 0 h0] at this
    cases this
  · refine ⟨(bestAt xs 1 n).toNat, by omega, h3.1, ?_⟩
    generalize (bestAt xs 1 n).toNat = k at *
    obtain ⟨g1, g2, g3⟩ := h3
    have q := g3 (f (m - 1)) (hl _ (by omega))
    rw [forb_no (hnum _ (by omega))] at q
    have o1 := ord_key (xs.getD (f (m - 1)) 0) (xs.getD k 0)
    have o2 := ord_key (xs.getD k 0) (xs.getD (f (m - 1)) 0)
    obtain ⟨t, _, q2, q3⟩ := hm.symm.at_ k (Nat.zero_le _) g1
    have htm : t < m := by
      have := h1 t q2
      rw [show numAt xs (f t) = (!Fl.nan (xs.getD (f t) 0)) from rfl, ← q3, g2] at this
      exact of_decide_eq_true this.symm
    have e : Fl.key (xs.getD k 0) ≤ Fl.key (xs.getD (f (m - 1)) 0) := by
      rw [q3]
      exact hs.key (i := t) (j := m - 1) (Nat.zero_le _) (by omega) (by omega)
    omega
/-- neighbours -/
theorem next_ord (hs : Sorted (keyAt xs) f 0 n) {k : Nat} (hk : k + 1 < n) : (Fl.ordV (xs.getD (f k) 0) (xs.getD (f (k + 1)) 0) = -1) ∨ (Fl.ordV (xs.getD (f k) 0) (xs.getD (f (k + 1)) 0) = 0 ∧ f k < f (k + 1)) := by
  have o := ord_key (xs.getD (f k) 0) (xs.getD (f (k + 1)) 0)
  have h : Fl.key (xs.getD (f k) 0) < Fl.key (xs.getD (f (k + 1)) 0) ∨ (Fl.key (xs.getD (f k) 0) = Fl.key (xs.getD (f (k + 1)) 0) ∧ f k < f (k + 1)) := hs k (k + 1) (Nat.zero_le _) (by omega) hk
  omega
end
end Go.Proofs.Ytmkbbfcecolobaa
