/-
  Floats of 64 bits as their words: which words are no numbers, how two stand, the key that rises as numbers stand. Plain Lean: no program and no memory.
-/
import Derived.Laws.Cover2
import Derived.Laws.FloatArith
namespace Go.Proofs.Ytfiimmbpfdpjfaa.Fl

abbrev F : Ieee.Format := FloatKind.f64.format

theorem sw : F.signWeight = 9223372036854775808 := by decide
theorem bn : F.binade = 4503599627370496 := by decide
theorem ir : F.infRung = 9218868437227405312 := by decide

def neg (x : Nat) : Bool := x / 9223372036854775808 % 2 == 1
def rung (x : Nat) : Nat := x % 9223372036854775808
/-- no number -/
def nan (x : Nat) : Bool := decide (9218868437227405312 < rung x)
/-- where a number stands among all: its rung, with its sign -/
def sv (x : Nat) : Int := if neg x then -(rung x : Int) else (rung x : Int)

/-- a finite rung's digits and place -/
def mag (r : Nat) : Nat := if r < 4503599627370496 then r else 4503599627370496 + r % 4503599627370496
def plc (r : Nat) : Nat := if r < 4503599627370496 then 0 else r / 4503599627370496 - 1
def val (r : Nat) : Nat := mag r * 2 ^ plc r

theorem val_succ (r : Nat) : val r < val (r + 1) := by
  unfold val mag plc
  by_cases h : r + 1 < 4503599627370496
  · rw [if_pos h, if_pos h, if_pos (by omega), if_pos (by omega)]
    omega
  · by_cases h1 : r + 1 = 4503599627370496
    · rw [if_neg h, if_neg h, if_pos (by omega), if_pos (by omega), h1]
      have : r = 4503599627370495 := by omega
      subst this
      decide
    · rw [if_neg h, if_neg h, if_neg (by omega), if_neg (by omega)]
      by_cases h2 : (r + 1) % 4503599627370496 = 0
      · have h3 : r % 4503599627370496 = 4503599627370495 := by omega
        obtain ⟨e, he⟩ : ∃ e, r / 4503599627370496 - 1 = e := ⟨_, rfl⟩
        have h4 : (r + 1) / 4503599627370496 - 1 = e + 1 := by omega
        rw [h2, h3, h4, he, Nat.pow_succ]
        have : 0 < 2 ^ e := Nat.two_pow_pos e
        omega
      · have h3 : (r + 1) % 4503599627370496 = r % 4503599627370496 + 1 := by omega
        have h4 : (r + 1) / 4503599627370496 = r / 4503599627370496 := by omega
        rw [h3, h4]
        exact Nat.mul_lt_mul_of_pos_right (by omega) (Nat.two_pow_pos _)
theorem val_mono {r s : Nat} (h : r < s) : val r < val s := by
  induction s with
  | zero => omega
  | succ s ih =>
    by_cases e : r = s
    · subst e; exact val_succ r
    · exact Nat.lt_trans (ih (by omega)) (val_succ s)
theorem val_lt {r s : Nat} : val r < val s ↔ r < s := by
  constructor
  · intro h
    rcases Nat.lt_trichotomy r s with h1 | h1 | h1
    · exact h1
    · subst h1; omega
    · have := val_mono h1; omega
  · exact val_mono
theorem val_inj {r s : Nat} : val r = val s ↔ r = s := by
  constructor
  · intro h
    rcases Nat.lt_trichotomy r s with h1 | h1 | h1
    · have := val_mono h1; omega
    · exact h1
    · have := val_mono h1; omega
  · rintro rfl; rfl
theorem val_zero : val 0 = 0 := by decide

theorem cmp_congr {a b c d : Int} (h1 : a < b ↔ c < d) (h2 : b < a ↔ d < c) : compare a b = compare c d := by
  simp only [compare, compareOfLessAndEq]
  rcases Int.lt_trichotomy a b with h | h | h
  · rw [if_pos h, if_pos (h1.1 h)]
  · have g1 : ¬ c < d := fun g => by have := h1.2 g; omega
    have g2 : ¬ d < c := fun g => by have := h2.2 g; omega
    rw [if_neg (by omega), if_pos h, if_neg g1, if_pos (by omega)]
  · have := h2.1 h
    rw [if_neg (by omega), if_neg (by omega), if_neg (by omega), if_neg (by omega)]

theorem read_fin {x : Nat} (h : rung x < 9218868437227405312) : F.read x = .number (neg x) (mag (rung x)) (F.leastPlace + plc (rung x)) := by
  unfold Ieee.Format.read
  simp only [sw, bn, ir]
  show (if rung x < 4503599627370496 then Ieee.Datum.number (neg x) (rung x) F.leastPlace
    else if rung x < 9218868437227405312 then .number (neg x) (4503599627370496 + rung x % 4503599627370496) (F.leastPlace + ((rung x / 4503599627370496 - 1 : Nat) : Int))
    else if rung x = 9218868437227405312 then .infinity (neg x) else .nan (neg x) (rung x - 9218868437227405312)) = _
  unfold mag plc
  split
  · simp
  · rfl
theorem read_inf {x : Nat} (h : rung x = 9218868437227405312) : F.read x = .infinity (neg x) := by
  unfold Ieee.Format.read
  simp only [sw, bn, ir]
  show (if rung x < 4503599627370496 then Ieee.Datum.number (neg x) (rung x) F.leastPlace
    else if rung x < 9218868437227405312 then .number (neg x) (4503599627370496 + rung x % 4503599627370496) (F.leastPlace + ((rung x / 4503599627370496 - 1 : Nat) : Int))
    else if rung x = 9218868437227405312 then .infinity (neg x) else .nan (neg x) (rung x - 9218868437227405312)) = _
  rw [if_neg (by omega), if_neg (by omega), if_pos h]
theorem read_nan {x : Nat} (h : 9218868437227405312 < rung x) : F.read x = .nan (neg x) (rung x - 9218868437227405312) := by
  unfold Ieee.Format.read
  simp only [sw, bn, ir]
  show (if rung x < 4503599627370496 then Ieee.Datum.number (neg x) (rung x) F.leastPlace
    else if rung x < 9218868437227405312 then .number (neg x) (4503599627370496 + rung x % 4503599627370496) (F.leastPlace + ((rung x / 4503599627370496 - 1 : Nat) : Int))
    else if rung x = 9218868437227405312 then .infinity (neg x) else .nan (neg x) (rung x - 9218868437227405312)) = _
  rw [if_neg (by omega), if_neg (by omega), if_neg (by omega)]

/-- 'mag * 2 ^ e' with its sign -/
def sg (s : Bool) (v : Nat) : Int := if s then -(v : Int) else (v : Int)
theorem sg_lt (s t : Bool) (a b : Nat) : sg s (val a) < sg t (val b) ↔ sg s a < sg t b := by
  have h1 := @val_lt a b
  have h2 := @val_lt b a
  have h3 := @val_lt 0 a
  have h4 := @val_lt 0 b
  rw [val_zero] at h3 h4
  unfold sg
  cases s <;> cases t <;> simp only [Bool.false_eq_true, if_false, if_true] <;> omega

theorem scale (s t : Bool) (m n p q : Nat) : (Ieee.signed s m (p - min p q) < Ieee.signed t n (q - min p q)) ↔ sg s (m * 2 ^ p) < sg t (n * 2 ^ q) := by
  have e : ∀ (k p q : Nat), k * 2 ^ p = (k <<< (p - min p q)) * 2 ^ min p q := by
    intro k p q
    rw [Nat.shiftLeft_eq, Nat.mul_assoc, ← Nat.pow_add]
    congr 2
    omega
  have e1 := e m p q
  have e2 := e n q p
  rw [Nat.min_comm q p] at e2
  rw [e1, e2]
  unfold Ieee.signed sg
  generalize m <<< (p - min p q) = a
  generalize n <<< (q - min p q) = b
  have hk : 0 < 2 ^ min p q := Nat.two_pow_pos _
  generalize 2 ^ min p q = k at hk
  have h1 : a * k < b * k ↔ a < b := Nat.mul_lt_mul_right hk
  have h2 : b * k < a * k ↔ b < a := Nat.mul_lt_mul_right hk
  have h3 : 0 < a * k ↔ 0 < a := by rw [Nat.mul_pos_iff_of_pos_right hk]
  have h4 : 0 < b * k ↔ 0 < b := by rw [Nat.mul_pos_iff_of_pos_right hk]
  generalize a * k = A at *
  generalize b * k = B at *
  cases s <;> cases t <;> simp only [Bool.false_eq_true, if_false, if_true] <;> omega

theorem order_num {x y : Nat} (hx : nan x = false) (hy : nan y = false) : F.order x y = some (compare (sv x) (sv y)) := by
  have hx' : ¬ 9218868437227405312 < rung x := of_decide_eq_false hx
  have hy' : ¬ 9218868437227405312 < rung y := of_decide_eq_false hy
  unfold Ieee.Format.order
  have hsx : sv x = sg (neg x) (rung x) := rfl
  have hsy : sv y = sg (neg y) (rung y) := rfl
  rw [hsx, hsy]
  by_cases h1 : rung x < 9218868437227405312
  · rw [read_fin h1]
    by_cases h2 : rung y < 9218868437227405312
    · rw [read_fin h2]
      simp only [Ieee.Datum.order, Option.some.injEq]
      have e1 : (F.leastPlace + (plc (rung x) : Int) - min (F.leastPlace + (plc (rung x) : Int)) (F.leastPlace + (plc (rung y) : Int))).toNat = plc (rung x) - min (plc (rung x)) (plc (rung y)) := by omega
      have e2 : (F.leastPlace + (plc (rung y) : Int) - min (F.leastPlace + (plc (rung x) : Int)) (F.leastPlace + (plc (rung y) : Int))).toNat = plc (rung y) - min (plc (rung x)) (plc (rung y)) := by omega
      rw [e1, e2]
      refine cmp_congr ?_ ?_
      · exact (scale _ _ _ _ _ _).trans (sg_lt _ _ _ _)
      · have := (scale (neg y) (neg x) (mag (rung y)) (mag (rung x)) (plc (rung y)) (plc (rung x)))
        rw [Nat.min_comm (plc (rung y))] at this
        exact this.trans (sg_lt _ _ _ _)
    · have h2' : rung y = 9218868437227405312 := by omega
      rw [read_inf h2']
      simp only [Ieee.Datum.order, Option.some.injEq, h2']
      unfold sg
      simp only [compare, compareOfLessAndEq]
      cases neg x <;> cases neg y <;> simp only [Bool.false_eq_true, if_false, if_true]
      · rw [if_pos (by omega)]
      · rw [if_neg (by omega), if_neg (by omega)]
      · rw [if_pos (by omega)]
      · rw [if_neg (by omega), if_neg (by omega)]
  · have h1' : rung x = 9218868437227405312 := by omega
    rw [read_inf h1']
    by_cases h2 : rung y < 9218868437227405312
    · rw [read_fin h2]
      simp only [Ieee.Datum.order, Option.some.injEq, h1']
      unfold sg
      simp only [compare, compareOfLessAndEq]
      cases neg x <;> cases neg y <;> simp only [Bool.false_eq_true, if_false, if_true]
      · rw [if_neg (by omega), if_neg (by omega)]
      · rw [if_neg (by omega), if_neg (by omega)]
      · rw [if_pos (by omega)]
      · rw [if_pos (by omega)]
    · have h2' : rung y = 9218868437227405312 := by omega
      rw [read_inf h2']
      simp only [Ieee.Datum.order, Option.some.injEq, h1', h2']
      unfold sg
      cases neg x <;> cases neg y <;> decide

theorem order_nan {x y : Nat} (h : nan x = true ∨ nan y = true) : F.order x y = none := by
  unfold Ieee.Format.order
  rcases h with h | h
  · rw [read_nan (of_decide_eq_true h)]
    rfl
  · rw [read_nan (x := y) (of_decide_eq_true h)]
    cases F.read x <;> rfl

/-- '<', '==', '>' of two words -/
def ltB (x y : Nat) : Bool := !nan x && !nan y && decide (sv x < sv y)
def eqB (x y : Nat) : Bool := !nan x && !nan y && decide (sv x = sv y)

theorem cmp_lt (a b : Int) : (compare a b == .lt) = decide (a < b) := by
  simp only [compare, compareOfLessAndEq]
  rcases Int.lt_trichotomy a b with h | h | h
  · rw [if_pos h]; simp [h]
  · rw [if_neg (by omega), if_pos h]; simp [h]
  · rw [if_neg (by omega), if_neg (by omega)]; simp; omega
theorem cmp_gt (a b : Int) : (compare a b == .gt) = decide (b < a) := by
  simp only [compare, compareOfLessAndEq]
  rcases Int.lt_trichotomy a b with h | h | h
  · rw [if_pos h]; simp; omega
  · rw [if_neg (by omega), if_pos h]; simp [h]
  · rw [if_neg (by omega), if_neg (by omega)]; simp [h]
theorem cmp_eq (a b : Int) : (compare a b == .eq) = decide (a = b) := by
  simp only [compare, compareOfLessAndEq]
  rcases Int.lt_trichotomy a b with h | h | h
  · rw [if_pos h]; simp; omega
  · rw [if_neg (by omega), if_pos h]; simp [h]
  · rw [if_neg (by omega), if_neg (by omega)]; simp; omega

theorem lss (x y : Nat) : (F.order x y == some .lt) = ltB x y := by
  unfold ltB
  cases hx : nan x with
  | true => rw [order_nan (.inl hx)]; rfl
  | false =>
    cases hy : nan y with
    | true => rw [order_nan (.inr hy)]; rfl
    | false => rw [order_num hx hy]; exact cmp_lt _ _
theorem gtr (x y : Nat) : (F.order x y == some .gt) = ltB y x := by
  unfold ltB
  cases hx : nan x with
  | true => rw [order_nan (.inl hx)]; simp
  | false =>
    cases hy : nan y with
    | true => rw [order_nan (.inr hy)]; rfl
    | false => rw [order_num hx hy]; exact cmp_gt _ _
theorem eql (x y : Nat) : (F.order x y == some .eq) = eqB x y := by
  unfold eqB
  cases hx : nan x with
  | true => rw [order_nan (.inl hx)]; rfl
  | false =>
    cases hy : nan y with
    | true => rw [order_nan (.inr hy)]; rfl
    | false => rw [order_num hx hy]; exact cmp_eq _ _
theorem neq (x y : Nat) : (F.order x y != some .eq) = !eqB x y := by
  rw [← eql]; rfl
theorem eqB_self (x : Nat) : eqB x x = !nan x := by
  unfold eqB; simp
theorem neq_self (x : Nat) : (F.order x x != some .eq) = nan x := by
  rw [neq, eqB_self, Bool.not_not]

/-- the key of figure.Order -/
def key (x : Nat) : Nat := if nan x then 18446744073709551615 else if 9223372036854775808 ≤ x then 18446744073709551615 - x else x + 9223372036854775808
theorem key_lt {x : Nat} (_hx : x < 18446744073709551616) : key x < 18446744073709551616 := by
  unfold key
  split
  · omega
  · split <;> omega
def ordV (a b : Nat) : Int := if key a < key b then -1 else if key b < key a then 1 else 0

theorem lt_key {a b : Nat} (ha : a < 18446744073709551616) (hb : b < 18446744073709551616) (h : ltB a b = true) : key a < key b := by
  unfold ltB at h
  simp only [Bool.and_eq_true, Bool.not_eq_true', decide_eq_true_eq] at h
  obtain ⟨⟨h1, h2⟩, h3⟩ := h
  unfold key
  rw [h1, h2]
  simp only [Bool.false_eq_true, if_false]
  have n1 : ¬ 9218868437227405312 < rung a := of_decide_eq_false h1
  have n2 : ¬ 9218868437227405312 < rung b := of_decide_eq_false h2
  unfold sv neg rung at h3
  unfold rung at n1 n2
  by_cases ca : 9223372036854775808 ≤ a
  · have e1 : (a / 9223372036854775808 % 2 == 1) = true := by rw [beq_iff_eq]; omega
    rw [if_pos ca]
    rw [e1] at h3
    by_cases cb : 9223372036854775808 ≤ b
    · have e2 : (b / 9223372036854775808 % 2 == 1) = true := by rw [beq_iff_eq]; omega
      rw [if_pos cb]
      rw [e2] at h3
      simp only [if_true] at h3
      omega
    · rw [if_neg cb]; omega
  · have e1 : (a / 9223372036854775808 % 2 == 1) = false := by rw [beq_eq_false_iff_ne]; omega
    rw [if_neg ca]
    rw [e1] at h3
    by_cases cb : 9223372036854775808 ≤ b
    · have e2 : (b / 9223372036854775808 % 2 == 1) = true := by rw [beq_iff_eq]; omega
      rw [e2] at h3
      simp only [Bool.false_eq_true, if_false, if_true] at h3
      omega
    · have e2 : (b / 9223372036854775808 % 2 == 1) = false := by rw [beq_eq_false_iff_ne]; omega
      rw [if_neg cb]
      rw [e2] at h3
      simp only [Bool.false_eq_true, if_false] at h3
      omega
end Go.Proofs.Ytfiimmbpfdpjfaa.Fl
