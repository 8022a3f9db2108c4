/-
  Whole numbers times a power of two: exact, and in the same order. No program.
-/
import Derived.Test.YtplejggfeehbcaaFair
import Derived.Test.YtplejggfeehbcaaFigD
namespace Go.Proofs.Ytplejggfeehbcaa
open Go.RowKit
set_option linter.unusedSimpArgs false

namespace Fl
theorem word_lt {r : Nat} (h : r < 9223372036854775808) (s : Bool) : rung (F.word s r) = r ∧ neg (F.word s r) = s := by
  unfold Ieee.Format.word
  rw [sw]
  unfold rung neg
  cases s with
  | false => exact ⟨by simp; omega, by rw [if_neg (by decide), beq_eq_false_iff_ne]; omega⟩
  | true => exact ⟨by simp; omega, by rw [if_pos rfl, beq_iff_eq]; omega⟩
/-- a whole number times a power of two -/
theorem nearest_scaled (s : Bool) (k t e : Nat) (hk : k < 9007199254740992) (h0 : k ≠ 0) (he : e ≤ 900) : F.nearest s (k * 2 ^ t) ((e : Int) - (t : Int)) = F.word s (W k + e * 4503599627370496) := by
  have hl := log2_lt hk h0
  rw [W_pos h0 hk]
  have h2 : k * 2 ^ t ≠ 0 := Nat.mul_ne_zero h0 (Nat.pos_iff_ne_zero.1 (Nat.two_pow_pos t))
  unfold Ieee.Format.nearest
  rw [if_neg h2]
  simp only [lp, fb, bn, ir, log2_mul k t h0]
  have e1 : max ((e : Int) - (t : Int) + ((k.log2 + t : Nat) : Int) - ((52 : Nat) : Int)) (-1074) = (e : Int) + (k.log2 : Int) - 52 := by omega
  rw [e1]
  have e4 : ((e : Int) + (k.log2 : Int) - 52 - -1074).toNat = e + 1022 + k.log2 := by omega
  rw [e4]
  have hc : Ieee.Toward.even.cut s ((k * 2 ^ t) <<< ((e : Int) - (t : Int) - ((e : Int) + (k.log2 : Int) - 52)).toNat) ((e : Int) + (k.log2 : Int) - 52 - ((e : Int) - (t : Int))).toNat = k * 2 ^ (52 - k.log2) := by
    by_cases hj : t ≤ 52 - k.log2
    · have a1 : ((e : Int) - (t : Int) - ((e : Int) + (k.log2 : Int) - 52)).toNat = 52 - k.log2 - t := by omega
      have a2 : ((e : Int) + (k.log2 : Int) - 52 - ((e : Int) - (t : Int))).toNat = 0 := by omega
      rw [a1, a2, cut_zero, Nat.shiftLeft_eq, Nat.mul_assoc, ← Nat.pow_add]
      congr 2
      omega
    · have a1 : ((e : Int) - (t : Int) - ((e : Int) + (k.log2 : Int) - 52)).toNat = 0 := by omega
      have a2 : ((e : Int) + (k.log2 : Int) - 52 - ((e : Int) - (t : Int))).toNat = t - (52 - k.log2) := by omega
      rw [a1, a2, Nat.shiftLeft_eq, Nat.pow_zero, Nat.mul_one]
      have a3 : k * 2 ^ t = (k * 2 ^ (52 - k.log2)) * 2 ^ (t - (52 - k.log2)) := by
        rw [Nat.mul_assoc, ← Nat.pow_add]
        congr 2
        omega
      rw [a3]
      exact cut_exact _ _ _ (Nat.mul_ne_zero h0 (Nat.pos_iff_ne_zero.1 (Nat.two_pow_pos _)))
  rw [hc]
  have := norm_hi (k := k) hl
  rw [Nat.min_eq_left (by omega), show (e + 1022 + k.log2) * 4503599627370496 + k * 2 ^ (52 - k.log2) = (1022 + k.log2) * 4503599627370496 + k * 2 ^ (52 - k.log2) + e * 4503599627370496 by omega]
theorem scaled_lt {k e : Nat} (hk : k < 9007199254740992) (he : e ≤ 900) : W k + e * 4503599627370496 < 9218868437227405312 := by
  by_cases h0 : k = 0
  · subst h0; rw [W_zero]; omega
  · have hl := log2_lt hk h0
    have := norm_hi (k := k) hl
    rw [W_pos h0 hk]
    omega
theorem read_scaled (s : Bool) {k e : Nat} (hk : k < 9007199254740992) (h0 : k ≠ 0) (he : e ≤ 900) : F.read (F.word s (W k + e * 4503599627370496)) = .number s (k * 2 ^ (52 - k.log2)) ((e : Int) - ((52 - k.log2 : Nat) : Int)) := by
  have h3 := scaled_lt hk he
  obtain ⟨h1, h2⟩ := word_lt (r := W k + e * 4503599627370496) (by omega) s
  have hl := log2_lt hk h0
  have lo := norm_lo h0 hl
  have hi := norm_hi (k := k) hl
  rw [read_fin (by rw [h1]; exact h3), h1, h2, W_pos h0 hk, lp]
  generalize hc : k * 2 ^ (52 - k.log2) = c at *
  unfold mag plc
  rw [if_neg (by omega), if_neg (by omega)]
  congr 1
  · omega
  · omega
/-- the word of 2 ^ e -/
def P (e : Nat) : Nat := 4607182418800017408 + e * 4503599627370496
theorem P_word (e : Nat) : P e = F.word false (W 1 + e * 4503599627370496) := by
  unfold Ieee.Format.word
  rw [W_one, if_neg (by decide)]
  rfl
theorem mul_scaled (s : Bool) {k e d : Nat} (hk : k < 9007199254740992) (h0 : k ≠ 0) (he : e ≤ 400) (hd : d ≤ 400) : F.mul (F.word s (W k + e * 4503599627370496)) (P d) = some (F.word s (W k + (e + d) * 4503599627370496)) := by
  unfold Ieee.Format.mul
  rw [P_word, read_scaled s hk h0 (by omega), read_scaled false (k := 1) (by decide) (by decide) (by omega)]
  show some (F.nearest (s ^^ false) (k * 2 ^ (52 - k.log2) * (1 * 2 ^ (52 - Nat.log2 1))) ((e : Int) - ((52 - k.log2 : Nat) : Int) + ((d : Int) - ((52 - Nat.log2 1 : Nat) : Int)))) = _
  have e1 : k * 2 ^ (52 - k.log2) * (1 * 2 ^ (52 - Nat.log2 1)) = k * 2 ^ (52 - k.log2 + (52 - Nat.log2 1)) := by
    rw [Nat.one_mul, Nat.mul_assoc, ← Nat.pow_add]
  have e2 : (e : Int) - ((52 - k.log2 : Nat) : Int) + ((d : Int) - ((52 - Nat.log2 1 : Nat) : Int)) = ((e + d : Nat) : Int) - ((52 - k.log2 + (52 - Nat.log2 1) : Nat) : Int) := by omega
  rw [e1, e2, Bool.xor_false, nearest_scaled s k _ _ hk h0 (by omega)]
theorem mul_zero (d : Nat) (hd : d ≤ 400) : F.mul 0 (P d) = some 0 := by
  unfold Ieee.Format.mul
  rw [P_word, read_scaled false (k := 1) (by decide) (by decide) (by omega)]
  show some (F.nearest false (0 * _) _) = some 0
  rw [Nat.zero_mul]
  unfold Ieee.Format.nearest
  rw [if_pos rfl]
  rfl
theorem W_mono {a b : Nat} (h : a < b) (hb : b < 9007199254740992) : W a < W b := by
  have lb := log2_lt hb (by omega)
  have nb := norm_lo (k := b) (by omega) lb
  rw [W_pos (k := b) (by omega) hb]
  by_cases h0 : a = 0
  · subst h0; rw [W_zero]; omega
  · have la := log2_lt (k := a) (by omega) h0
    have na := norm_hi (k := a) la
    rw [W_pos h0 (by omega)]
    have hll : a.log2 ≤ b.log2 := by
      rcases Nat.lt_or_ge b.log2 a.log2 with h1 | h1
      · have h2 := Nat.log2_self_le h0
        have h3 := @Nat.lt_log2_self b
        have h4 : 2 ^ (b.log2 + 1) ≤ 2 ^ a.log2 := Nat.pow_le_pow_right (by decide) h1
        omega
      · exact h1
    rcases Nat.eq_or_lt_of_le hll with h1 | h1
    · rw [h1]
      have : a * 2 ^ (52 - b.log2) < b * 2 ^ (52 - b.log2) := Nat.mul_lt_mul_of_pos_right h (Nat.two_pow_pos _)
      omega
    · omega

/-- a whole number times 2 ^ e -/
def SW (z : Int) (e : Nat) : Nat := if z = 0 then 0 else F.word (decide (z < 0)) (W z.natAbs + e * 4503599627370496)
theorem SW_int (z : Int) (hz : z.natAbs < 9007199254740992) : floatOfInt .f64 z = SW z 0 := by
  show F.nearest (decide (z < 0)) z.natAbs 0 = SW z 0
  unfold SW
  by_cases h0 : z = 0
  · subst h0; decide
  · rw [if_neg h0]
    have := nearest_scaled (decide (z < 0)) z.natAbs 0 0 hz (by omega) (by omega)
    rw [Nat.pow_zero, Nat.mul_one] at this
    exact this
theorem SW_mul (z : Int) (d : Nat) (hz : z.natAbs < 9007199254740992) (hd : d ≤ 400) : F.mul (SW z 0) (P d) = some (SW z d) := by
  unfold SW
  by_cases h0 : z = 0
  · rw [if_pos h0, if_pos h0]; exact mul_zero d hd
  · rw [if_neg h0, if_neg h0]
    have := mul_scaled (decide (z < 0)) (k := z.natAbs) (e := 0) hz (by omega) (by omega) hd
    rw [Nat.zero_add] at this
    exact this
theorem P_next (e : Nat) (he : e ≤ 300) : F.mul (P e) 4611686018427387904 = some (P (e + 1)) := by
  have := mul_scaled false (k := 1) (e := e) (d := 1) (by decide) (by decide) (by omega) (by omega)
  rw [← P_word, ← P_word] at this
  exact this

theorem SW_key (z : Int) (e : Nat) (hz : z.natAbs < 9007199254740992) (he : e ≤ 400) : nan (SW z e) = false ∧ SW z e < 18446744073709551616 ∧
    key (SW z e) = (if z < 0 then 9223372036854775807 - (W z.natAbs + e * 4503599627370496) else if z = 0 then 9223372036854775808 else 9223372036854775808 + (W z.natAbs + e * 4503599627370496)) := by
  unfold SW
  by_cases h0 : z = 0
  · subst h0
    rw [if_pos rfl, if_neg (by decide), if_pos rfl]
    exact ⟨by decide, by decide, by decide⟩
  · rw [if_neg h0, if_neg h0]
    have h3 := scaled_lt hz (show e ≤ 900 by omega)
    obtain ⟨h1, h2⟩ := word_lt (r := W z.natAbs + e * 4503599627370496) (by omega) (decide (z < 0))
    have hn : nan (F.word (decide (z < 0)) (W z.natAbs + e * 4503599627370496)) = false := by unfold nan; rw [h1]; exact decide_eq_false (by omega)
    refine ⟨hn, ?_, ?_⟩
    · unfold Ieee.Format.word; rw [sw]; split <;> omega
    · unfold key
      rw [hn]
      unfold Ieee.Format.word
      rw [sw]
      by_cases hneg : z < 0
      · rw [decide_eq_true hneg, if_pos hneg]
        simp only [Bool.false_eq_true, if_false, if_true]
        rw [if_pos (by omega)]
        omega
      · rw [decide_eq_false hneg, if_neg hneg]
        simp only [Bool.false_eq_true, if_false]
        rw [if_neg (by omega)]
        omega
theorem SW_pos {z : Int} (h0 : z ≠ 0) (hz : z.natAbs < 9007199254740992) : 0 < W z.natAbs := by
  have := W_mono (a := 0) (b := z.natAbs) (by omega) hz
  rw [W_zero] at this
  exact this
theorem SW_lt {x y : Int} (e : Nat) (hx : x.natAbs < 9007199254740992) (hy : y.natAbs < 9007199254740992) (he : e ≤ 400) : key (SW x e) < key (SW y e) ↔ x < y := by
  rw [(SW_key x e hx he).2.2, (SW_key y e hy he).2.2]
  have hxl := scaled_lt hx (show e ≤ 900 by omega)
  have hyl := scaled_lt hy (show e ≤ 900 by omega)
  have px : x ≠ 0 → 0 < W x.natAbs := fun h => SW_pos h hx
  have py : y ≠ 0 → 0 < W y.natAbs := fun h => SW_pos h hy
  have m1 : x.natAbs < y.natAbs → W x.natAbs < W y.natAbs := fun h => W_mono h hy
  have m2 : y.natAbs < x.natAbs → W y.natAbs < W x.natAbs := fun h => W_mono h hx
  have m3 : x.natAbs = y.natAbs → W x.natAbs = W y.natAbs := fun h => by rw [h]
  generalize W x.natAbs = a at *
  generalize W y.natAbs = b at *
  repeat' split
  all_goals omega
theorem SW_ord (x y : Int) (e : Nat) (hx : x.natAbs < 9007199254740992) (hy : y.natAbs < 9007199254740992) (he : e ≤ 400) : ordV (SW x e) (SW y e) = ordV (SW x 0) (SW y 0) := by
  unfold ordV
  have a := SW_lt e hx hy he
  have b := SW_lt e hy hx he
  have c := SW_lt 0 hx hy (by omega)
  have d := SW_lt 0 hy hx (by omega)
  simp only [a, b, c, d]
end Fl

theorem bestAt_congr (xs ys : List Nat) (way : Int) (n : Nat) (hn : ∀ i, i < n → Fl.nan (xs.getD i 0) = Fl.nan (ys.getD i 0))
    (ho : ∀ i j, i < n → j < n → Fl.ordV (xs.getD i 0) (xs.getD j 0) = Fl.ordV (ys.getD i 0) (ys.getD j 0)) : ∀ k, k ≤ n → bestAt xs way k = bestAt ys way k
  | 0, _ => rfl
  | k + 1, hk => by
    have ih := bestAt_congr xs ys way n hn ho k (by omega)
    have hb := bestAt_bounds ys way k
    simp only [bestAt]
    rw [ih, hn k (by omega)]
    by_cases h0 : bestAt ys way k < 0
    · simp [h0]
    · rw [ho k (bestAt ys way k).toNat (by omega) (by omega)]
end Go.Proofs.Ytplejggfeehbcaa
