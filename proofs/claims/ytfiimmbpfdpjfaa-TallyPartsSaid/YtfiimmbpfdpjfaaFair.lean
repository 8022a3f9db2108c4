/-
  How evenly whole numbers share: the plain law. No program.
-/
import Derived.Test.YtfiimmbpfdpjfaaWhole
import Derived.Test.YtfiimmbpfdpjfaaFigM
namespace Go.Proofs.Ytfiimmbpfdpjfaa
open Go.RowKit
set_option linter.unusedSimpArgs false

def sumL : List Nat → Nat
  | [] => 0
  | k :: ks => k + sumL ks
theorem sumL_append (a b : List Nat) : sumL (a ++ b) = sumL a + sumL b := by
  induction a with
  | nil => simp [sumL]
  | cons k ks ih => simp [sumL, ih, Nat.add_assoc]
theorem sumL_le (ks : List Nat) (m : Nat) (h : ∀ k ∈ ks, k ≤ m) : sumL ks ≤ ks.length * m := by
  induction ks with
  | nil => simp [sumL]
  | cons k ks ih =>
    have h1 := h k (List.mem_cons_self ..)
    have h2 := ih fun x hx => h x (List.mem_cons_of_mem _ hx)
    simp only [sumL, List.length_cons, Nat.add_mul, Nat.one_mul]
    omega
theorem sumL_take (ks : List Nat) (m : Nat) : sumL (ks.take m) ≤ sumL ks := by
  have := sumL_append (ks.take m) (ks.drop m)
  rw [List.take_append_drop] at this
  omega
theorem sumL_zero {ks : List Nat} (h : sumL ks = 0) : ∀ k ∈ ks, k = 0 := by
  induction ks with
  | nil => intro k hk; cases hk
  | cons x xs ih =>
    simp only [sumL] at h
    intro k hk
    rcases List.mem_cons.1 hk with rfl | hk
    · omega
    · exact ih (by omega) k hk
def sq (k : Nat) : Nat := k * k
theorem two_mul_le (a b : Nat) : 2 * (a * b) ≤ a * a + b * b := by
  rcases Nat.le_total a b with h | h
  · obtain ⟨d, rfl⟩ : ∃ d, b = a + d := ⟨b - a, by omega⟩
    have e1 : a * (a + d) = a * a + a * d := Nat.mul_add ..
    have e2 : (a + d) * (a + d) = a * a + a * d + (a * d + d * d) := by rw [Nat.add_mul, Nat.mul_add, Nat.mul_add, Nat.mul_comm d a]
    rw [e1, e2]
    generalize a * a = x
    generalize a * d = y
    generalize d * d = z
    omega
  · obtain ⟨d, rfl⟩ : ∃ d, a = b + d := ⟨a - b, by omega⟩
    have e1 : (b + d) * b = b * b + b * d := by rw [Nat.add_mul, Nat.mul_comm d b]
    have e2 : (b + d) * (b + d) = b * b + b * d + (b * d + d * d) := by rw [Nat.add_mul, Nat.mul_add, Nat.mul_add, Nat.mul_comm d b]
    rw [e1, e2]
    generalize b * b = x
    generalize b * d = y
    generalize d * d = z
    omega
theorem mixed (k : Nat) (ks : List Nat) : 2 * (k * sumL ks) ≤ ks.length * (k * k) + sumL (ks.map sq) := by
  induction ks with
  | nil => simp [sumL]
  | cons x xs ih =>
    have h := two_mul_le k x
    simp only [sumL, List.map_cons, List.length_cons, Nat.mul_add, Nat.add_mul, Nat.one_mul]
    unfold sq at *
    omega
/-- the square of the sum is no more than so many times the sum of the squares -/
theorem cauchy (ks : List Nat) : sumL ks * sumL ks ≤ ks.length * sumL (ks.map sq) := by
  induction ks with
  | nil => simp [sumL]
  | cons k ks ih =>
    have h := mixed k ks
    simp only [sumL, List.map_cons, List.length_cons]
    have e1 : (k + sumL ks) * (k + sumL ks) = k * k + 2 * (k * sumL ks) + sumL ks * sumL ks := by
      rw [Nat.add_mul, Nat.mul_add, Nat.mul_add, Nat.mul_comm (sumL ks) k]; omega
    have e2 : (ks.length + 1) * (sq k + sumL (ks.map sq)) = ks.length * (k * k) + ks.length * sumL (ks.map sq) + k * k + sumL (ks.map sq) := by
      unfold sq
      rw [Nat.add_mul, Nat.mul_add]; omega
    omega
theorem alike_sums (k : Nat) (ks : List Nat) (h : ∀ x ∈ ks, x = k) : sumL ks = ks.length * k ∧ sumL (ks.map sq) = ks.length * (k * k) := by
  induction ks with
  | nil => simp [sumL]
  | cons x xs ih =>
    have h1 := h x (List.mem_cons_self ..)
    have h2 := ih fun y hy => h y (List.mem_cons_of_mem _ hy)
    subst h1
    simp only [sumL, List.map_cons, List.length_cons, Nat.add_mul, Nat.one_mul]
    rw [h2.1, h2.2]
    unfold sq
    omega

theorem nz_W {k : Nat} (h : k < 9007199254740992) : nz (Fl.W k) = some (Fl.W k) := by
  unfold nz
  rw [(Fl.low_num (Fl.W_lt h)).2.2]; rfl
theorem nz_low {r : Nat} (h : r < 9218868437227405312) : nz r = some r := by
  unfold nz
  rw [(Fl.low_num h).2.2]; rfl
theorem opN_add_W {a b : Nat} (h : a + b < 9007199254740992) : opN .add (some (Fl.W a)) (some (Fl.W b)) = some (Fl.W (a + b)) := by
  show (Fl.F.add (Fl.W a) (Fl.W b)).bind nz = _
  rw [Fl.add_W h]; exact nz_W h
theorem opN_mul_W {a b : Nat} (ha : a < 9007199254740992) (hb : b < 9007199254740992) (h : a * b < 9007199254740992) : opN .mul (some (Fl.W a)) (some (Fl.W b)) = some (Fl.W (a * b)) := by
  show (Fl.F.mul (Fl.W a) (Fl.W b)).bind nz = _
  rw [Fl.mul_W ha hb h]; exact nz_W h

theorem sumK_W (ks : List Nat) (h : sumL ks < 9007199254740992) (hk : ∀ k ∈ ks, k < 9007199254740992) : ∀ m, m ≤ ks.length → sumK (ks.map fun k => some (Fl.W k)) m = some (Fl.W (sumL (ks.take m)))
  | 0, _ => by simp only [List.take_zero, sumL, Fl.W_zero]; rfl
  | 1, hm => by
    rw [sumK_one]
    cases ks with
    | nil => simp at hm
    | cons x xs => simp [sumL]
  | m + 2, hm => by
    rw [sumK_more _ _ (by omega), sumK_W ks h hk (m + 1) (by omega)]
    have e : (ks.map fun k => some (Fl.W k)).getD (m + 1) none = some (Fl.W (ks[m + 1]'(by omega))) := by
      simp [List.getD_eq_getElem?_getD, List.getElem?_eq_getElem (show m + 1 < ks.length by omega)]
    have e2 : sumL (ks.take (m + 2)) = sumL (ks.take (m + 1)) + ks[m + 1]'(by omega) := by
      rw [List.take_add_one (i := m + 1), List.getElem?_eq_getElem (show m + 1 < ks.length by omega), sumL_append]
      simp [sumL]
    have := sumL_take ks (m + 2)
    rw [e, opN_add_W (by omega), e2]
theorem sumN_W (ks : List Nat) (h : sumL ks < 9007199254740992) (hk : ∀ k ∈ ks, k < 9007199254740992) : sumN (ks.map fun k => some (Fl.W k)) = some (Fl.W (sumL ks)) := by
  unfold sumN
  rw [List.length_map, sumK_W ks h hk _ (Nat.le_refl _), List.take_length]

/-- small whole numbers -/
structure Small (ks : List Nat) : Prop where
  each : ∀ k ∈ ks, k ≤ 1000
  len : ks.length ≤ 1000
theorem Small.sum {ks : List Nat} (h : Small ks) : sumL ks ≤ 1000000 := by
  have h1 := sumL_le ks 1000 h.each
  have := h.len
  omega
theorem Small.sq {ks : List Nat} (h : Small ks) : sumL (ks.map sq) ≤ 1000000000 := by
  have h1 := sumL_le (ks.map Go.Proofs.Ytfiimmbpfdpjfaa.sq) 1000000 (by
    intro k hk
    obtain ⟨x, hx, rfl⟩ := List.mem_map.1 hk
    have := h.each x hx
    have h2 : x * x ≤ 1000 * 1000 := Nat.mul_le_mul this this
    exact h2)
  rw [List.length_map] at h1
  have := h.len
  omega
theorem mul_lt_big {a b : Nat} (ha : a ≤ 1000000) (hb : b ≤ 1000000) : a * b < 9007199254740992 := by
  have : a * b ≤ 1000000 * 1000000 := Nat.mul_le_mul ha hb
  omega
theorem mul_lt_big2 {a b : Nat} (ha : a ≤ 1000) (hb : b ≤ 1000000000) : a * b < 9007199254740992 := by
  have : a * b ≤ 1000 * 1000000000 := Nat.mul_le_mul ha hb
  omega
theorem map_nz_W {ks : List Nat} (h : ∀ k ∈ ks, k ≤ 1000) : (ks.map Fl.W).map nz = ks.map fun k => some (Fl.W k) := by
  rw [List.map_map]
  apply List.map_congr_left
  intro k hk
  have := h k hk
  exact nz_W (by omega)
theorem map_sqN_W {ks : List Nat} (h : ∀ k ∈ ks, k ≤ 1000) : (ks.map Fl.W).map sqN = (ks.map sq).map fun k => some (Fl.W k) := by
  rw [List.map_map, List.map_map]
  apply List.map_congr_left
  intro k hk
  have := h k hk
  show opN .mul (nz (Fl.W k)) (nz (Fl.W k)) = some (Fl.W (k * k))
  rw [nz_W (by omega)]
  exact opN_mul_W (by omega) (by omega) (mul_lt_big (by omega) (by omega))

theorem fair_form {ks : List Nat} (h : Small ks) : fairV (ks.map Fl.W) = onN (opN .quo (some (Fl.W (sumL ks * sumL ks))) (some (Fl.W (ks.length * sumL (ks.map sq))))) := by
  have h1 := h.sum
  have h2 := h.sq
  have h3 := h.len
  have hs : sumV (ks.map Fl.W) = Fl.W (sumL ks) := by
    unfold sumV
    rw [map_nz_W h.each, sumN_W _ (by omega) (fun k hk => by have := h.each k hk; omega)]
    rfl
  have hq : onN (sumN ((ks.map Fl.W).map sqN)) = Fl.W (sumL (ks.map sq)) := by
    rw [map_sqN_W h.each, sumN_W _ (by omega) (fun k hk => by
      obtain ⟨x, hx, rfl⟩ := List.mem_map.1 hk
      have := h.each x hx
      exact mul_lt_big (by omega) (by omega))]
    rfl
  have hl : floatOfInt .f64 ((ks.map Fl.W).length : Int) = Fl.W ks.length := by
    rw [List.length_map]
    show Fl.F.nearest (decide ((ks.length : Int) < 0)) (ks.length : Int).natAbs 0 = Fl.F.nearest false ks.length 0
    rw [decide_eq_false (by omega), Int.natAbs_natCast]
  unfold fairV
  rw [hs, hq, hl, nz_W (by omega), nz_W (by omega), nz_W (by omega), opN_mul_W (by omega) (by omega) (mul_lt_big h1 h1), opN_mul_W (by omega) (by omega) (mul_lt_big2 h3 h2)]

theorem fair_pos {ks : List Nat} (h : Small ks) (h0 : sumL ks ≠ 0) : 0 < fairV (ks.map Fl.W) ∧ fairV (ks.map Fl.W) ≤ 4607182418800017408 ∧ ((∀ k ∈ ks, k = ks.getD 0 0) → fairV (ks.map Fl.W) = 4607182418800017408) := by
  have h1 := h.sum
  have h2 := h.sq
  have h3 := h.len
  obtain ⟨r, hr, hp, hle, he⟩ := Fl.div_W (a := sumL ks * sumL ks) (b := ks.length * sumL (ks.map sq)) (Nat.mul_ne_zero h0 h0) (cauchy ks) (mul_lt_big2 h3 h2)
  have e : fairV (ks.map Fl.W) = r := by
    rw [fair_form h]
    show onN ((Fl.F.div _ _).bind nz) = r
    rw [hr]
    show onN (nz r) = r
    rw [nz_low (by omega)]
    rfl
  rw [e]
  refine ⟨hp, hle, fun ha => he ?_⟩
  obtain ⟨e1, e2⟩ := alike_sums _ ks ha
  rw [e1, e2]
  ac_rfl
theorem fair_none {ks : List Nat} (h : Small ks) (h0 : sumL ks = 0) : fairV (ks.map Fl.W) = theNan := by
  have hq : sumL (ks.map sq) = 0 := by
    have := cauchy ks
    have hz := sumL_zero h0
    have e : ks.map sq = ks.map fun _ => 0 := List.map_congr_left fun k hk => by rw [hz k hk]; rfl
    rw [e]
    clear e hz this h h0
    induction ks with
    | nil => rfl
    | cons k ks ih => simpa [sumL] using ih
  rw [fair_form h, h0, hq, Nat.mul_zero, Nat.mul_zero, Fl.W_zero]
  decide

theorem W_inj {a b : Nat} (ha : a < 9007199254740992) (hb : b < 9007199254740992) (h : Fl.W a = Fl.W b) : a = b := by
  obtain ⟨i, h1, _⟩ := Fl.read_W ha
  obtain ⟨j, h2, _⟩ := Fl.read_W hb
  rw [h, h2] at h1
  simp only [Ieee.Datum.number.injEq, true_and] at h1
  obtain ⟨e1, e2⟩ := h1
  have : i = j := by omega
  subst this
  exact (Nat.eq_of_mul_eq_mul_right (Nat.two_pow_pos i) e1).symm
theorem eq_W {a b : Nat} (ha : a < 9007199254740992) (hb : b < 9007199254740992) : (Fl.F.order (Fl.W a) (Fl.W b) == some .eq) = decide (a = b) := by
  rw [Fl.eql]
  obtain ⟨n1, r1, k1⟩ := Fl.low_num (Fl.W_lt ha)
  obtain ⟨n2, r2, k2⟩ := Fl.low_num (Fl.W_lt hb)
  unfold Fl.eqB Fl.sv
  rw [n1, n2, r1, r2, k1, k2]
  simp only [Bool.not_false, Bool.true_and, Bool.false_eq_true, if_false]
  apply Bool.eq_iff_iff.2
  rw [decide_eq_true_eq, decide_eq_true_eq]
  constructor
  · intro h; exact W_inj ha hb (by omega)
  · rintro rfl; rfl
end Go.Proofs.Ytfiimmbpfdpjfaa
