/-
  A stable sort in place, in plain Lean: blocks of runs.
-/
import Derived.Test.YtmkbbfcecolobaaSrtB
namespace Go.Proofs.Ytmkbbfcecolobaa.Srt
set_option linter.unusedVariables false
set_option linter.unusedSimpArgs false

/-- places moved about within blocks, each block sorted; β: a place's block -/
structure Runs (K f β : Nat → Nat) (n : Nat) : Prop where
  mv : Mv 0 n (fun k => k) f
  home : ∀ k, k < n → β (f k) = β k
  sort : ∀ i j, i < j → j < n → β i = β j → Lt K (f i) (f j)
section
variable {K f g β β' : Nat → Nat} {n a b m z : Nat}
theorem Runs.lt (h : Runs K f β n) {k : Nat} (hk : k < n) : f k < n := by
  obtain ⟨j, _, h2, h3⟩ := h.mv.at_ k (Nat.zero_le _) hk
  rw [h3]; exact h2
theorem Runs.congr (h : Runs K f β n) (e : ∀ x y, x < n → y < n → (β x = β y ↔ β' x = β' y)) : Runs K f β' n :=
  ⟨h.mv, fun k hk => (e _ _ (h.lt hk) hk).1 (h.home k hk), fun i j hij hj hb => h.sort i j hij hj ((e i j (by omega) hj).2 hb)⟩
theorem Runs.merge (h : Runs K f β n) (hb : b ≤ n) (hmv : Mv a b f g) (hs : Sorted K g a b) (hin : ∀ x y, a ≤ x → x < b → y < n → β y = β x → a ≤ y ∧ y < b)
    (h1 : ∀ x y, x < n → y < n → ¬ (a ≤ x ∧ x < b) → ¬ (a ≤ y ∧ y < b) → (β x = β y ↔ β' x = β' y)) (h2 : ∀ x y, a ≤ x → x < b → a ≤ y → y < b → β' x = β' y)
    (h3 : ∀ x y, a ≤ x → x < b → y < n → ¬ (a ≤ y ∧ y < b) → β' x ≠ β' y) : Runs K g β' n := by
  have inb : ∀ k, a ≤ k → k < b → a ≤ f k ∧ f k < b := fun k k1 k2 => hin k (f k) k1 k2 (h.lt (by omega)) (h.home k (by omega))
  have outb : ∀ k, k < n → ¬ (a ≤ k ∧ k < b) → ¬ (a ≤ f k ∧ f k < b) := fun k k1 k2 k3 => k2 (hin (f k) k k3.1 k3.2 k1 (h.home k k1).symm)
  refine ⟨h.mv.trans (hmv.mono (Nat.zero_le _) hb), fun k hk => ?_, fun i j hij hj he => ?_⟩
  · by_cases c : a ≤ k ∧ k < b
    · obtain ⟨j, j1, j2, j3⟩ := hmv.at_ k c.1 c.2
      rw [j3]
      exact h2 _ _ (inb j j1 j2).1 (inb j j1 j2).2 c.1 c.2
    · rw [hmv.out k (by omega)]
      exact (h1 _ _ (h.lt hk) hk (outb k hk c) c).1 (h.home k hk)
  · by_cases ci : a ≤ i ∧ i < b
    · by_cases cj : a ≤ j ∧ j < b
      · exact hs i j ci.1 hij cj.2
      · exact absurd he (h3 i j ci.1 ci.2 hj cj)
    · by_cases cj : a ≤ j ∧ j < b
      · exact absurd he.symm (h3 j i cj.1 cj.2 (by omega) ci)
      · rw [hmv.out i (by omega), hmv.out j (by omega)]
        exact h.sort i j hij hj ((h1 i j (by omega) hj ci cj).2 he)
/-- of two blocks side by side the elements of the one are below those of the other -/
theorem Runs.low (h : Runs K f β n) (hb : b ≤ n) (h1 : ∀ x y, a ≤ x → x < m → y < n → β y = β x → y < m) (h2 : ∀ x y, m ≤ x → x < b → y < n → β y = β x → m ≤ y) (hm : m ≤ n) : Low f a m b := by
  intro i j k1 k2 k3 k4
  have e1 := h1 i (f i) k1 k2 (h.lt (by omega)) (h.home i (by omega))
  have e2 := h2 j (f j) k3 k4 (h.lt (by omega)) (h.home j (by omega))
  omega
/-- blocks of z below a, single places from there on -/
def one (z n a : Nat) : Nat → Nat := fun k => if k < a then k / z else n + 1 + k
/-- blocks of z, two of them taken together below the block u -/
def two (z n u : Nat) : Nat → Nat := fun k => if k / z < u then k / z / 2 else n + 1 + k / z
theorem runs_start (K : Nat → Nat) (z n : Nat) : Runs K (fun k => k) (one z n 0) n :=
  ⟨Mv.refl _ _ _, fun k hk => rfl, fun i j hij hj he => by unfold one at he; rw [if_neg (by omega), if_neg (by omega)] at he; omega⟩
theorem one_out (h : Runs K f (one z n a) n) {k : Nat} (h1 : a ≤ k) (hk : k < n) : f k = k := by
  have := h.home k hk
  unfold one at this
  rw [if_neg (show ¬ k < a by omega)] at this
  split at this
  · rename_i hlt
    have := Nat.div_le_self (f k) z
    have := h.lt hk
    omega
  · omega
theorem div_in {z t x : Nat} (h1 : t * z ≤ x) (h2 : x < t * z + z) : x / z = t := by
  have hz : 0 < z := by omega
  refine Nat.div_eq_of_lt_le h1 ?_
  rw [Nat.add_mul, Nat.one_mul]; exact h2
theorem div_below {z t x : Nat} (h : x < t * z) : x / z < t := Nat.div_lt_of_lt_mul (by rw [Nat.mul_comm]; exact h)
theorem one_next {z t b : Nat} (h : Runs K f (one z n (t * z)) n) (hb : b ≤ n) (hbz : b ≤ t * z + z) (hab : t * z ≤ b) (hmv : Mv (t * z) b f g) (hs : Sorted K g (t * z) b) : Runs K g (one z n b) n := by
  refine h.merge hb hmv hs (fun x y h1 h2 hy he => ?_) (fun x y hx hy h1 h2 => ?_) (fun x y h1 h2 h3 h4 => ?_) (fun x y h1 h2 hy h3 he => ?_)
  · unfold one at he
    rw [if_neg (show ¬ x < t * z by omega)] at he
    split at he
    · have := Nat.div_le_self y z; omega
    · omega
  · have dx := Nat.div_le_self x z
    have dy := Nat.div_le_self y z
    unfold one
    by_cases cx : x < t * z
    · rw [if_pos cx, if_pos (show x < b by omega)]
      by_cases cy : y < t * z
      · rw [if_pos cy, if_pos (show y < b by omega)]
      · rw [if_neg cy, if_neg (show ¬ y < b by omega)]
    · rw [if_neg cx, if_neg (show ¬ x < b by omega)]
      by_cases cy : y < t * z
      · rw [if_pos cy, if_pos (show y < b by omega)]
      · rw [if_neg cy, if_neg (show ¬ y < b by omega)]
  · unfold one
    rw [if_pos h2, if_pos h4, div_in h1 (by omega), div_in h3 (by omega)]
  · unfold one at he
    rw [if_pos h2, div_in h1 (by omega)] at he
    split at he
    · rename_i hlt
      have := div_below (show y < t * z by omega)
      omega
    · have : t ≤ t * z := Nat.le_mul_of_pos_right t (by omega)
      omega
theorem one_two (h : Runs K f (one z n b) n) (hbn : n ≤ b) : Runs K f (two z n 0) n := by
  refine h.congr fun x y hx hy => ?_
  unfold one two
  rw [if_pos (show x < b by omega), if_pos (show y < b by omega), if_neg (Nat.not_lt_zero _), if_neg (Nat.not_lt_zero _)]
  omega
theorem q_lt (hz : 0 < z) (x u : Nat) : x / z < u ↔ x < u * z := Nat.div_lt_iff_lt_mul hz
theorem two_sorted {u : Nat} (hz : 0 < z) (h : Runs K f (two z n u) n) {v : Nat} (huv : u ≤ v) (hb : b ≤ n) (hbz : b ≤ v * z + z) : Sorted K f (v * z) b := by
  intro i j h1 h2 h3
  refine h.sort i j h2 (by omega) ?_
  have e1 := div_in h1 (show i < v * z + z by omega)
  have e2 := div_in (show v * z ≤ j by omega) (show j < v * z + z by omega)
  unfold two
  rw [e1, e2]
/-- what is asked of two blocks ahead of their merge -/
theorem two_ready {u : Nat} (hz : 0 < z) (h : Runs K f (two z n u) n) (hm : u * z + z ≤ n) (hb : b ≤ n) (hbz : b ≤ u * z + z + z) :
    Sorted K f (u * z) (u * z + z) ∧ Sorted K f (u * z + z) b ∧ Low f (u * z) (u * z + z) b := by
  have e2 : u * z + z = (u + 1) * z := by rw [Nat.add_mul, Nat.one_mul]
  refine ⟨two_sorted hz h (Nat.le_refl u) hm (Nat.le_refl _), ?_, h.low hb (fun x y h1 h2 hy he => ?_) (fun x y h1 h2 hy he => ?_) hm⟩
  · have := two_sorted hz h (v := u + 1) (b := b) (by omega) hb (by omega)
    rwa [← e2] at this
  · have e1 := div_in h1 (show x < u * z + z by omega)
    have q := (q_lt hz y (u + 1)).1
    unfold two at he
    rw [e1, if_neg (Nat.lt_irrefl u)] at he
    split at he
    · have := Nat.div_le_self y z; omega
    · have := q (by omega); omega
  · have e1 : x / z = u + 1 := div_in (by omega) (by omega)
    have q := (q_lt hz y (u + 1)).2
    unfold two at he
    rw [e1, if_neg (show ¬ u + 1 < u by omega)] at he
    split at he
    · have := Nat.div_le_self y z; omega
    · by_cases c : u * z + z ≤ y
      · exact c
      · have := q (by omega); omega
theorem two_next {t : Nat} (hz : 0 < z) (h : Runs K f (two z n (2 * t)) n) (hb : b ≤ n) (hbz : b = 2 * t * z + z + z ∨ (b = n ∧ b ≤ 2 * t * z + z + z)) (hab : 2 * t * z ≤ b) (hmv : Mv (2 * t * z) b f g) (hs : Sorted K g (2 * t * z) b) : Runs K g (two z n (2 * (t + 1))) n := by
  generalize hu : 2 * t = u at *
  have hu2 : 2 * (t + 1) = u + 2 := by omega
  rw [hu2]
  have e2 : u * z + z + z = (u + 2) * z := by rw [Nat.add_mul, Nat.two_mul]; omega
  have lo : ∀ x, x / z < u ↔ x < u * z := fun x => q_lt hz x u
  have hi : ∀ x, x / z < u + 2 ↔ x < (u + 2) * z := fun x => q_lt hz x (u + 2)
  have dv : ∀ x, x / z ≤ x := fun x => Nat.div_le_self x z
  refine h.merge hb hmv hs (fun x y h1 h2 hy he => ?_) (fun x y hx hy h1 h2 => ?_) (fun x y h1 h2 h3 h4 => ?_) (fun x y h1 h2 hy h3 he => ?_)
  · have lx := lo x; have hx := hi x; have ly := lo y; have hy' := hi y; have dx := dv x; have dy := dv y
    unfold two at he
    rw [if_neg (show ¬ x / z < u by omega)] at he
    split at he <;> omega
  · have lx := lo x; have hx' := hi x; have ly := lo y; have hy' := hi y; have dx := dv x; have dy := dv y
    unfold two
    split <;> split <;> split <;> split <;> omega
  · have lx := lo x; have hx := hi x; have ly := lo y; have hy' := hi y
    unfold two
    rw [if_pos (by omega), if_pos (by omega)]
    omega
  · have lx := lo x; have hx := hi x; have ly := lo y; have hy' := hi y; have dx := dv x; have dy := dv y
    unfold two at he
    rw [if_pos (show x / z < u + 2 by omega)] at he
    split at he <;> omega
theorem half (x z : Nat) : x / (2 * z) = x / z / 2 := by rw [Nat.div_div_eq_div_mul, Nat.mul_comm]
/-- the last block has no second half -/
theorem two_rest {t : Nat} (hz : 0 < z) (h : Runs K f (two z n (2 * t)) n) (hm : n ≤ 2 * t * z + z) : Runs K f (two (2 * z) n 0) n := by
  generalize hu : 2 * t = u at *
  have e2 : u * z + z = (u + 1) * z := by rw [Nat.add_mul, Nat.one_mul]
  refine h.congr fun x y hx hy => ?_
  have lx := q_lt hz x (u + 1); have ly := q_lt hz y (u + 1)
  have dx := Nat.div_le_self x z
  have dy := Nat.div_le_self y z
  unfold two
  rw [half, half, if_neg (Nat.not_lt_zero _), if_neg (Nat.not_lt_zero _)]
  split <;> split <;> omega
theorem two_all {u : Nat} (hz : 0 < z) (h : Runs K f (two z n u) n) (hb : n ≤ u * z) : Runs K f (two (2 * z) n 0) n := by
  refine h.congr fun x y hx hy => ?_
  have lx := q_lt hz x u; have ly := q_lt hz y u
  unfold two
  rw [half, half, if_neg (Nat.not_lt_zero _), if_neg (Nat.not_lt_zero _), if_pos (by omega), if_pos (by omega)]
  omega
theorem two_done (h : Runs K f (two z n 0) n) (hz : n ≤ z) : Sorted K f 0 n := by
  intro i j h1 h2 h3
  refine h.sort i j h2 h3 ?_
  unfold two
  rw [Nat.div_eq_of_lt (show i < z by omega), Nat.div_eq_of_lt (show j < z by omega)]
end
end Go.Proofs.Ytmkbbfcecolobaa.Srt
