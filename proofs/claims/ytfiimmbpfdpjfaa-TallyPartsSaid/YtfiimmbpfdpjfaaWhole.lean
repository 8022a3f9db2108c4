/-
  Whole numbers among the floats: sums and products of small ones are exact; a smaller by a greater lies above 0 and is at most 1. Plain Lean.
-/
import Derived.Test.YtfiimmbpfdpjfaaFl
namespace Go.Proofs.Ytfiimmbpfdpjfaa.Fl

theorem lp : F.leastPlace = -1074 := by decide
theorem fb : F.fractionBits = 52 := by decide

theorem log2_mul (k j : Nat) (h : k ≠ 0) : (k * 2 ^ j).log2 = k.log2 + j := by
  have h2 : k * 2 ^ j ≠ 0 := Nat.mul_ne_zero h (Nat.pos_iff_ne_zero.1 (Nat.two_pow_pos j))
  refine (Nat.log2_eq_iff h2).2 ⟨?_, ?_⟩
  · rw [Nat.pow_add]; exact Nat.mul_le_mul_right _ (Nat.log2_self_le h)
  · rw [show k.log2 + j + 1 = (k.log2 + 1) + j by omega, Nat.pow_add]
    exact Nat.mul_lt_mul_of_pos_right Nat.lt_log2_self (Nat.two_pow_pos j)

theorem cut_zero (n : Nat) (s : Bool) : Ieee.Toward.even.cut s n 0 = n := by
  unfold Ieee.Toward.cut
  simp [Nat.mod_one]
theorem cut_exact (c d : Nat) (s : Bool) (h : c ≠ 0) : Ieee.Toward.even.cut s (c * 2 ^ d) d = c := by
  unfold Ieee.Toward.cut
  have e : min d ((c * 2 ^ d).log2 + 2) = d := by rw [log2_mul c d h]; omega
  simp only [e, Nat.shiftLeft_eq, Nat.one_mul]
  rw [Nat.mul_div_cancel _ (Nat.two_pow_pos d), Nat.mul_mod_left]
  have := Nat.two_pow_pos d
  have e1 : decide (2 ^ d < 2 * 0) = false := decide_eq_false (by omega)
  have e2 : ((2 ^ d == 2 * 0) && c % 2 == 1) = false := by
    rw [show (2 ^ d == 2 * 0) = false from beq_eq_false_iff_ne.2 (by omega)]; rfl
  rw [e1, e2]
  rfl
/-- no more than one unit is added -/
theorem cut_le (n d : Nat) (s : Bool) : Ieee.Toward.even.cut s n d ≤ n / 2 ^ min d (n.log2 + 2) + 1 ∧ n / 2 ^ min d (n.log2 + 2) ≤ Ieee.Toward.even.cut s n d := by
  unfold Ieee.Toward.cut
  simp only [Nat.shiftLeft_eq, Nat.one_mul]
  have ht : ∀ b : Bool, b.toNat ≤ 1 := fun b => by cases b <;> simp
  exact ⟨Nat.add_le_add_left (ht _) _, Nat.le_add_right _ _⟩

/-- the word of a small whole number -/
def W (k : Nat) : Nat := F.nearest false k 0
theorem W_zero : W 0 = 0 := by decide
theorem W_one : W 1 = 4607182418800017408 := by decide

theorem log2_lt {k : Nat} (hk : k < 9007199254740992) (h0 : k ≠ 0) : k.log2 ≤ 52 := by
  have := (Nat.log2_lt h0 (k := 53)).2 hk
  omega
theorem W_pos {k : Nat} (h0 : k ≠ 0) (hk : k < 9007199254740992) : W k = (1022 + k.log2) * 4503599627370496 + k * 2 ^ (52 - k.log2) := by
  have hl := log2_lt hk h0
  unfold W Ieee.Format.nearest
  rw [if_neg h0]
  simp only [lp, fb, bn, ir]
  have e1 : max ((0 : Int) + (k.log2 : Int) - ((52 : Nat) : Int)) (-1074) = (k.log2 : Int) - 52 := by omega
  rw [e1]
  have e2 : ((0 : Int) - ((k.log2 : Int) - 52)).toNat = 52 - k.log2 := by omega
  have e3 : ((k.log2 : Int) - 52 - 0).toNat = 0 := by omega
  have e4 : ((k.log2 : Int) - 52 - -1074).toNat = 1022 + k.log2 := by omega
  rw [e2, e3, e4, cut_zero, Nat.shiftLeft_eq]
  unfold Ieee.Format.word
  have h2 : k * 2 ^ (52 - k.log2) < 9007199254740992 := by
    have h3 := @Nat.lt_log2_self k
    have h4 : k * 2 ^ (52 - k.log2) < 2 ^ (k.log2 + 1) * 2 ^ (52 - k.log2) := Nat.mul_lt_mul_of_pos_right h3 (Nat.two_pow_pos _)
    rw [← Nat.pow_add, show k.log2 + 1 + (52 - k.log2) = 53 by omega] at h4
    exact h4
  rw [if_neg (by decide), Nat.min_eq_left]
  omega
theorem norm_lo {k : Nat} (h0 : k ≠ 0) (hl : k.log2 ≤ 52) : 4503599627370496 ≤ k * 2 ^ (52 - k.log2) := by
  have h4 : 2 ^ k.log2 * 2 ^ (52 - k.log2) ≤ k * 2 ^ (52 - k.log2) := Nat.mul_le_mul_right _ (Nat.log2_self_le h0)
  rw [← Nat.pow_add, show k.log2 + (52 - k.log2) = 52 by omega] at h4
  exact h4
theorem norm_hi {k : Nat} (hl : k.log2 ≤ 52) : k * 2 ^ (52 - k.log2) < 9007199254740992 := by
  have h4 : k * 2 ^ (52 - k.log2) < 2 ^ (k.log2 + 1) * 2 ^ (52 - k.log2) := Nat.mul_lt_mul_of_pos_right Nat.lt_log2_self (Nat.two_pow_pos _)
  rw [← Nat.pow_add, show k.log2 + 1 + (52 - k.log2) = 53 by omega] at h4
  exact h4

/-- a number that is a whole one, however it is written -/
theorem nearest_W (k j : Nat) (hk : k < 9007199254740992) : F.nearest false (k * 2 ^ j) (-(j : Int)) = W k := by
  by_cases h0 : k = 0
  · subst h0
    rw [Nat.zero_mul]
    unfold Ieee.Format.nearest
    rw [if_pos rfl]
    decide
  · have hl := log2_lt hk h0
    rw [W_pos h0 hk]
    have h2 : k * 2 ^ j ≠ 0 := Nat.mul_ne_zero h0 (Nat.pos_iff_ne_zero.1 (Nat.two_pow_pos j))
    unfold Ieee.Format.nearest
    rw [if_neg h2]
    simp only [lp, fb, bn, ir, log2_mul k j h0]
    have e1 : max (-(j : Int) + ((k.log2 + j : Nat) : Int) - ((52 : Nat) : Int)) (-1074) = (k.log2 : Int) - 52 := by omega
    rw [e1]
    have e4 : ((k.log2 : Int) - 52 - -1074).toNat = 1022 + k.log2 := by omega
    rw [e4]
    have hc : Ieee.Toward.even.cut false ((k * 2 ^ j) <<< (-(j : Int) - ((k.log2 : Int) - 52)).toNat) ((k.log2 : Int) - 52 - -(j : Int)).toNat = k * 2 ^ (52 - k.log2) := by
      by_cases hj : j ≤ 52 - k.log2
      · have a1 : (-(j : Int) - ((k.log2 : Int) - 52)).toNat = 52 - k.log2 - j := by omega
        have a2 : ((k.log2 : Int) - 52 - -(j : Int)).toNat = 0 := by omega
        rw [a1, a2, cut_zero, Nat.shiftLeft_eq, Nat.mul_assoc, ← Nat.pow_add]
        congr 2
        omega
      · have a1 : (-(j : Int) - ((k.log2 : Int) - 52)).toNat = 0 := by omega
        have a2 : ((k.log2 : Int) - 52 - -(j : Int)).toNat = j - (52 - k.log2) := by omega
        rw [a1, a2, Nat.shiftLeft_eq, Nat.pow_zero, Nat.mul_one]
        have a3 : k * 2 ^ j = (k * 2 ^ (52 - k.log2)) * 2 ^ (j - (52 - k.log2)) := by
          rw [Nat.mul_assoc, ← Nat.pow_add]
          congr 2
          omega
        rw [a3]
        exact cut_exact _ _ _ (Nat.mul_ne_zero h0 (Nat.pos_iff_ne_zero.1 (Nat.two_pow_pos _)))
    rw [hc]
    unfold Ieee.Format.word
    have := norm_hi (k := k) hl
    rw [if_neg (by decide), Nat.min_eq_left]
    omega

theorem W_lt {k : Nat} (hk : k < 9007199254740992) : W k < 9218868437227405312 := by
  by_cases h0 : k = 0
  · subst h0; decide
  · have hl := log2_lt hk h0
    have := norm_hi (k := k) hl
    rw [W_pos h0 hk]
    omega
theorem low_num {x : Nat} (h : x < 9218868437227405312) : neg x = false ∧ rung x = x ∧ nan x = false := by
  have h1 : rung x = x := by unfold rung; omega
  refine ⟨?_, h1, ?_⟩
  · unfold neg; rw [beq_eq_false_iff_ne]; omega
  · unfold nan; rw [h1]; exact decide_eq_false (by omega)
theorem read_W {k : Nat} (hk : k < 9007199254740992) : ∃ j : Nat, F.read (W k) = .number false (k * 2 ^ j) (-(j : Int)) ∧ (k ≠ 0 → j = 52 - k.log2) := by
  obtain ⟨h1, h2, _⟩ := low_num (W_lt hk)
  by_cases h0 : k = 0
  · subst h0
    obtain ⟨y, hy⟩ : ∃ y : Nat, y = 1074 := ⟨_, rfl⟩
    refine ⟨y, ?_, fun h => absurd rfl h⟩
    rw [W_zero, Nat.zero_mul, hy]
    decide
  · refine ⟨52 - k.log2, ?_, fun _ => rfl⟩
    have hl := log2_lt hk h0
    have lo := norm_lo h0 hl
    have hi := norm_hi (k := k) hl
    rw [read_fin (by rw [h2]; exact W_lt hk), h1, h2, W_pos h0 hk, lp]
    generalize hc : k * 2 ^ (52 - k.log2) = c at *
    unfold mag plc
    rw [if_neg (by omega), if_neg (by omega)]
    congr 1
    · omega
    · omega

theorem shl (a n m : Nat) : (a * 2 ^ n) <<< m = a * 2 ^ (n + m) := by rw [Nat.shiftLeft_eq, Nat.mul_assoc, ← Nat.pow_add]
theorem add_W {a b : Nat} (h : a + b < 9007199254740992) : F.add (W a) (W b) = some (W (a + b)) := by
  obtain ⟨i, ha, _⟩ := read_W (k := a) (by omega)
  obtain ⟨j, hb, _⟩ := read_W (k := b) (by omega)
  unfold Ieee.Format.add
  rw [ha, hb]
  have e1 : (-(i : Int) - -((max i j : Nat) : Int)).toNat = max i j - i := by omega
  have e2 : (-(j : Int) - -((max i j : Nat) : Int)).toNat = max i j - j := by omega
  have e3 : min (-(i : Int)) (-(j : Int)) = -((max i j : Nat) : Int) := by omega
  simp only [Ieee.Datum.sum, Ieee.signed, Bool.false_eq_true, if_false, e3, e1, e2, shl, Option.map_some, Bool.and_self]
  have e4 : ((a * 2 ^ (i + (max i j - i)) : Nat) : Int) + ((b * 2 ^ (j + (max i j - j)) : Nat) : Int) = (((a + b) * 2 ^ max i j : Nat) : Int) := by
    rw [show i + (max i j - i) = max i j by omega, show j + (max i j - j) = max i j by omega, Nat.add_mul]; rfl
  rw [e4]
  have e5 : (if (((a + b) * 2 ^ max i j : Nat) : Int) = 0 then false else decide ((((a + b) * 2 ^ max i j : Nat) : Int) < 0)) = false := by
    split
    · rfl
    · exact decide_eq_false (by omega)
  rw [e5, Int.natAbs_natCast]
  show some (F.nearest _ _ _) = _
  rw [nearest_W _ _ h]
theorem mul_W {a b : Nat} (ha : a < 9007199254740992) (hb : b < 9007199254740992) (h : a * b < 9007199254740992) : F.mul (W a) (W b) = some (W (a * b)) := by
  obtain ⟨i, ha, _⟩ := read_W ha
  obtain ⟨j, hb, _⟩ := read_W hb
  unfold Ieee.Format.mul
  rw [ha, hb]
  show some (F.nearest false (a * 2 ^ i * (b * 2 ^ j)) (-(i : Int) + -(j : Int))) = _
  rw [show a * 2 ^ i * (b * 2 ^ j) = (a * b) * 2 ^ (i + j) by rw [Nat.pow_add]; ac_rfl, show -(i : Int) + -(j : Int) = -((i + j : Nat) : Int) by omega, nearest_W _ _ h]

/-- what lies above 0 and is less than 1 -/
theorem nearest_small (Q P : Nat) (h0 : Q ≠ 0) (hQ : Q < 2 ^ P) (hP : P ≤ 1000) : 0 < F.nearest false Q (-(P : Int)) ∧ F.nearest false Q (-(P : Int)) ≤ 4607182418800017408 := by
  have hl : Q.log2 < P := (Nat.log2_lt h0).2 hQ
  unfold Ieee.Format.nearest
  rw [if_neg h0]
  simp only [lp, fb, bn, ir]
  have e1 : max (-(P : Int) + (Q.log2 : Int) - ((52 : Nat) : Int)) (-1074) = (Q.log2 : Int) - 52 - P := by omega
  rw [e1]
  unfold Ieee.Format.word
  rw [if_neg (by decide)]
  have e4 : ((Q.log2 : Int) - 52 - P - -1074).toNat = 1022 + Q.log2 - P := by omega
  rw [e4]
  have hc : 4503599627370496 ≤ Ieee.Toward.even.cut false (Q <<< (-(P : Int) - ((Q.log2 : Int) - 52 - P)).toNat) ((Q.log2 : Int) - 52 - P - -(P : Int)).toNat ∧
      Ieee.Toward.even.cut false (Q <<< (-(P : Int) - ((Q.log2 : Int) - 52 - P)).toNat) ((Q.log2 : Int) - 52 - P - -(P : Int)).toNat ≤ 9007199254740992 := by
    by_cases hj : Q.log2 ≤ 52
    · have a1 : (-(P : Int) - ((Q.log2 : Int) - 52 - P)).toNat = 52 - Q.log2 := by omega
      have a2 : ((Q.log2 : Int) - 52 - P - -(P : Int)).toNat = 0 := by omega
      rw [a1, a2, cut_zero, Nat.shiftLeft_eq]
      exact ⟨norm_lo h0 hj, Nat.le_of_lt (norm_hi hj)⟩
    · have a1 : (-(P : Int) - ((Q.log2 : Int) - 52 - P)).toNat = 0 := by omega
      have a2 : ((Q.log2 : Int) - 52 - P - -(P : Int)).toNat = Q.log2 - 52 := by omega
      rw [a1, a2, Nat.shiftLeft_eq, Nat.pow_zero, Nat.mul_one]
      have hcl := cut_le Q (Q.log2 - 52) false
      rw [Nat.min_eq_left (by omega)] at hcl
      have h1 : Q / 2 ^ (Q.log2 - 52) < 9007199254740992 := by
        rw [Nat.div_lt_iff_lt_mul (Nat.two_pow_pos _)]
        have := @Nat.lt_log2_self Q
        rw [show Q.log2 + 1 = 53 + (Q.log2 - 52) by omega, Nat.pow_add] at this
        exact this
      have h2 : 4503599627370496 ≤ Q / 2 ^ (Q.log2 - 52) := by
        rw [Nat.le_div_iff_mul_le (Nat.two_pow_pos _)]
        have := Nat.log2_self_le h0
        rw [show Q.log2 = 52 + (Q.log2 - 52) by omega, Nat.pow_add] at this
        simpa using this
      omega
  generalize Ieee.Toward.even.cut false _ _ = c at hc
  omega

/-- a smaller whole number by a greater -/
theorem div_W {a b : Nat} (h0 : a ≠ 0) (hab : a ≤ b) (hb : b < 9007199254740992) : ∃ r, F.div (W a) (W b) = some r ∧ 0 < r ∧ r ≤ 4607182418800017408 ∧ (a = b → r = 4607182418800017408) := by
  obtain ⟨i, ha, hi⟩ := read_W (k := a) (by omega)
  obtain ⟨j, hbr, hj⟩ := read_W hb
  have hi := hi h0
  have hj := hj (by omega)
  have la := log2_lt (k := a) (by omega) h0
  have lb := log2_lt hb (by omega)
  have hll : a.log2 ≤ b.log2 := by
    rcases Nat.lt_or_ge b.log2 a.log2 with h | h
    · have h1 := Nat.log2_self_le h0
      have h2 := @Nat.lt_log2_self b
      have h3 : 2 ^ (b.log2 + 1) ≤ 2 ^ a.log2 := Nat.pow_le_pow_right (by decide) h
      omega
    · exact h
  unfold Ieee.Format.div
  rw [ha, hbr]
  have hn : b * 2 ^ j ≠ 0 := Nat.mul_ne_zero (by omega) (Nat.pos_iff_ne_zero.1 (Nat.two_pow_pos j))
  simp only [Ieee.Datum.quotient, if_neg hn, Option.map_some, fb, log2_mul a i h0, log2_mul b j (show b ≠ 0 by omega), shl]
  have e1 : 52 + 2 + (b.log2 + j) - (a.log2 + i) = 54 := by omega
  rw [e1]
  have e2 : i + 54 = (54 + b.log2 - a.log2) + j := by omega
  obtain ⟨X, hX⟩ : ∃ X, 54 + b.log2 - a.log2 = X := ⟨_, rfl⟩
  rw [hX] at e2
  rw [e2, show a * 2 ^ (X + j) = (a * 2 ^ X) * 2 ^ j by rw [Nat.pow_add]; ac_rfl]
  have e3 : (a * 2 ^ X * 2 ^ j) / (b * 2 ^ j) = a * 2 ^ X / b := Nat.mul_div_mul_right _ _ (Nat.two_pow_pos j)
  have e4 : (a * 2 ^ X * 2 ^ j) % (b * 2 ^ j) = (a * 2 ^ X % b) * 2 ^ j := Nat.mul_mod_mul_right _ _ _
  rw [e3, e4]
  have e5 : (-(i : Int) - -(j : Int) - ((54 : Nat) : Int) - 1) = -((X + 1 : Nat) : Int) := by omega
  rw [e5]
  refine ⟨_, rfl, ?_⟩
  show 0 < F.nearest (false ^^ false) _ _ ∧ F.nearest (false ^^ false) _ _ ≤ _ ∧ (a = b → F.nearest (false ^^ false) _ _ = _)
  by_cases heq : a = b
  · subst heq
    rw [Nat.mul_comm a (2 ^ X), Nat.mul_div_cancel _ (by omega), Nat.mul_mod_left, Nat.zero_mul]
    have : 2 * 2 ^ X + ((0 : Nat) != 0).toNat = 1 * 2 ^ (X + 1) := by rw [Nat.pow_succ]; simp; omega
    rw [this]
    show 0 < F.nearest false _ _ ∧ F.nearest false _ _ ≤ _ ∧ (a = a → F.nearest false _ _ = _)
    rw [nearest_W 1 (X + 1) (by decide), W_one]
    exact ⟨by decide, by decide, fun _ => rfl⟩
  · have hlt : a * 2 ^ X / b < 2 ^ X := by
      rw [Nat.div_lt_iff_lt_mul (by omega), Nat.mul_comm (2 ^ X) b]
      exact Nat.mul_lt_mul_of_pos_right (by omega) (Nat.two_pow_pos X)
    have hge : 1 ≤ a * 2 ^ X / b := by
      rw [Nat.le_div_iff_mul_le (by omega), Nat.one_mul]
      have h1 := Nat.log2_self_le h0
      have h2 := @Nat.lt_log2_self b
      have h3 : 2 ^ (b.log2 + 1) ≤ 2 ^ (a.log2 + X) := Nat.pow_le_pow_right (by decide) (by omega)
      have h4 : 2 ^ (a.log2 + X) ≤ a * 2 ^ X := by rw [Nat.pow_add]; exact Nat.mul_le_mul_right _ h1
      omega
    have ht : ∀ q : Nat, (q != 0).toNat ≤ 1 := fun q => by cases (q != 0) <;> simp
    have := ht (a * 2 ^ X % b * 2 ^ j)
    have h5 : 2 ^ (X + 1) = 2 ^ X * 2 := Nat.pow_succ ..
    have := nearest_small (2 * (a * 2 ^ X / b) + (a * 2 ^ X % b * 2 ^ j != 0).toNat) (X + 1) (by omega) (by omega) (by omega)
    exact ⟨this.1, this.2, fun h => absurd h heq⟩
end Go.Proofs.Ytfiimmbpfdpjfaa.Fl
