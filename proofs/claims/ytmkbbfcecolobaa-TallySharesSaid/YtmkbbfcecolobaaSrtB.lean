/-
  A stable sort in place, in plain Lean: two runs become one.
-/
import Derived.Test.YtmkbbfcecolobaaSrtA
namespace Go.Proofs.Ytmkbbfcecolobaa.Srt
set_option linter.unusedVariables false
set_option linter.unusedSimpArgs false

/-- ahead: by the key, and where that is the same by the number itself -/
def Lt (K : Nat → Nat) (x y : Nat) : Prop := K x < K y ∨ (K x = K y ∧ x < y)
theorem Lt.trans {K : Nat → Nat} {x y z : Nat} (h : Lt K x y) (k : Lt K y z) : Lt K x z := by unfold Lt at *; omega
theorem Lt.le {K : Nat → Nat} {x y : Nat} (h : Lt K x y) : K x ≤ K y := by unfold Lt at *; omega
def Sorted (K f : Nat → Nat) (a b : Nat) : Prop := ∀ i j, a ≤ i → i < j → j < b → Lt K (f i) (f j)
def Low (f : Nat → Nat) (a m b : Nat) : Prop := ∀ i j, a ≤ i → i < m → m ≤ j → j < b → f i < f j
theorem Sorted.key {K f : Nat → Nat} {a b : Nat} (h : Sorted K f a b) {i j : Nat} (h1 : a ≤ i) (h2 : i ≤ j) (h3 : j < b) : K (f i) ≤ K (f j) := by
  by_cases e : i = j
  · subst e; omega
  · exact (h i j h1 (by omega) h3).le
theorem Sorted.sub {K f : Nat → Nat} {a b a' b' : Nat} (h : Sorted K f a b) (h1 : a ≤ a') (h2 : b' ≤ b) : Sorted K f a' b' := fun i j h3 h4 h5 => h i j (by omega) h4 (by omega)
theorem Sorted.congr {K f g : Nat → Nat} {a b : Nat} (h : Sorted K f a b) (e : ∀ k, a ≤ k → k < b → g k = f k) : Sorted K g a b := fun i j h3 h4 h5 => by
  rw [e i h3 (by omega), e j (by omega) h5]; exact h i j h3 h4 h5
theorem Low.congr {f g : Nat → Nat} {a m b : Nat} (h : Low f a m b) (hm : a ≤ m) (hb : m ≤ b) (e : ∀ k, a ≤ k → k < b → g k = f k) : Low g a m b := fun i j h1 h2 h3 h4 => by
  rw [e i h1 (by omega), e j (by omega) h4]; exact h i j h1 h2 h3 h4
theorem sorted_one {K f : Nat → Nat} {a b : Nat} (h : b ≤ a + 1) : Sorted K f a b := fun i j h1 h2 h3 => by omega

section
variable {K f g : Nat → Nat} {a m b s e mid : Nat}
/-- where two runs are parted: the left one at s, the right one at e -/
structure Parted (K f : Nat → Nat) (a m b s e : Nat) : Prop where
  as_ : a ≤ s
  sm : s ≤ m
  me : m ≤ e
  eb : e ≤ b
  left : Sorted K f a m
  right : Sorted K f m b
  low : Low f a m b
  hL : ∀ i j, a ≤ i → i < s → e ≤ j → j < b → Lt K (f i) (f j)
  hR : ∀ i j, s ≤ i → i < m → m ≤ j → j < e → Lt K (f j) (f i)
theorem rotA (h : Parted K f a m b s e) (k : Nat) (h2 : k < s) : rot f s m e k = f k := by
  unfold rot; rw [if_neg (by omega), if_neg (by omega)]
theorem rotB (h : Parted K f a m b s e) (k : Nat) (h1 : s ≤ k) (h2 : k < s + (e - m)) : rot f s m e k = f (k - s + m) := by
  unfold rot; rw [if_pos (by omega)]
theorem rotC (h : Parted K f a m b s e) (k : Nat) (h1 : s + (e - m) ≤ k) (h2 : k < e) : rot f s m e k = f (k - (e - m)) := by
  unfold rot; rw [if_neg (by omega), if_pos (by omega)]
theorem rotD (h : Parted K f a m b s e) (k : Nat) (h1 : e ≤ k) : rot f s m e k = f k := by
  have := h.as_; have := h.sm; have := h.me
  unfold rot; rw [if_neg (by omega), if_neg (by omega)]
/-- behind the turn: the four parts -/
theorem Parted.turned (h : Parted K f a m b s e) : Sorted K (rot f s m e) a s ∧ Sorted K (rot f s m e) s (s + (e - m)) ∧ Low (rot f s m e) a s (s + (e - m)) ∧
    Sorted K (rot f s m e) (s + (e - m)) e ∧ Sorted K (rot f s m e) e b ∧ Low (rot f s m e) (s + (e - m)) e b ∧
    ∀ i j, a ≤ i → i < s + (e - m) → s + (e - m) ≤ j → j < b → Lt K (rot f s m e i) (rot f s m e j) := by
  have g1 := h.as_
  have g2 := h.sm
  have g3 := h.me
  have g4 := h.eb
  refine ⟨fun i j h1 h2 h3 => ?_, fun i j h1 h2 h3 => ?_, fun i j h1 h2 h3 h4 => ?_, fun i j h1 h2 h3 => ?_, fun i j h1 h2 h3 => ?_, fun i j h1 h2 h3 h4 => ?_, fun i j h1 h2 h3 h4 => ?_⟩
  · rw [rotA h i (by omega), rotA h j (by omega)]; exact h.left i j h1 h2 (by omega)
  · rw [rotB h i h1 (by omega), rotB h j (by omega) h3]; exact h.right _ _ (by omega) (by omega) (by omega)
  · rw [rotA h i h2, rotB h j h3 h4]; exact h.low _ _ h1 (by omega) (by omega) (by omega)
  · rw [rotC h i h1 (by omega), rotC h j (by omega) h3]; exact h.left _ _ (by omega) (by omega) (by omega)
  · rw [rotD h i h1, rotD h j (by omega)]; exact h.right i j (by omega) h2 h3
  · rw [rotC h i h1 h2, rotD h j h3]; exact h.low _ _ (by omega) (by omega) (by omega) h4
  · by_cases c1 : i < s
    · rw [rotA h i c1]
      by_cases c2 : j < e
      · rw [rotC h j h3 c2]; exact h.left _ _ h1 (by omega) (by omega)
      · rw [rotD h j (by omega)]; exact h.hL i j h1 c1 (by omega) h4
    · rw [rotB h i (by omega) h2]
      by_cases c2 : j < e
      · rw [rotC h j h3 c2]; exact h.hR _ _ (by omega) (by omega) (by omega) (by omega)
      · rw [rotD h j (by omega)]; exact h.right _ _ (by omega) (by omega) h4
/-- two halves, each sorted, all of the one ahead of all of the other -/
theorem join_halves {g h1 h2 : Nat → Nat} {c : Nat} (hac : a ≤ c) (hcb : c ≤ b) (hx : ∀ i j, a ≤ i → i < c → c ≤ j → j < b → Lt K (g i) (g j)) (m1 : Mv a c g h1) (s1 : Sorted K h1 a c) (m2 : Mv c b h1 h2) (s2 : Sorted K h2 c b) : Sorted K h2 a b := by
  intro i j hi hij hj
  by_cases ci : i < c
  · by_cases cj : j < c
    · rw [m2.out i (by omega), m2.out j (by omega)]; exact s1 i j hi hij cj
    · rw [m2.out i (by omega)]
      obtain ⟨i', k1, k2, k3⟩ := m1.at_ i hi ci
      obtain ⟨j', l1, l2, l3⟩ := m2.at_ j (by omega) hj
      rw [k3, l3, m1.out j' (by omega)]
      exact hx i' j' k1 k2 l1 l2
  · exact s2 i j (by omega) hij hj
/-- each is where it belongs -/
theorem Parted.all (h : Parted K f a m b s e) (hX : ∀ i j, s ≤ i → i < m → e ≤ j → j < b → Lt K (f i) (f j)) (hY : ∀ i j, a ≤ i → i < s → m ≤ j → j < e → Lt K (f i) (f j)) : Sorted K (rot f s m e) a b := by
  have g1 := h.as_
  have g2 := h.sm
  have g3 := h.me
  have g4 := h.eb
  obtain ⟨_, t2, _, t4, t5, _, t7⟩ := h.turned
  intro i j hi hij hj
  by_cases ci : i < s + (e - m)
  · by_cases cj : j < s + (e - m)
    · by_cases ci' : i < s
      · by_cases cj' : j < s
        · rw [rotA h i ci', rotA h j cj']; exact h.left i j hi hij (by omega)
        · rw [rotA h i ci', rotB h j (by omega) cj]; exact hY _ _ hi ci' (by omega) (by omega)
      · exact t2 i j (by omega) hij cj
    · exact t7 i j hi ci (by omega) hj
  · by_cases ci' : i < e
    · by_cases cj' : j < e
      · exact t4 i j (by omega) hij cj'
      · rw [rotC h i (by omega) ci', rotD h j (by omega)]; exact hX _ _ (by omega) (by omega) (by omega) hj
    · exact t5 i j (by omega) hij hj
/-- one element goes into a run ahead of it -/
theorem insert_sorted (hl : Sorted K f a m) (hlow : ∀ k, a ≤ k → k < m → f k < f m) (has : a ≤ s) (hsm : s ≤ m) (h1 : ∀ k, a ≤ k → k < s → K (f k) ≤ K (f m)) (h2 : ∀ k, s ≤ k → k < m → K (f m) < K (f k)) : Sorted K (rot f s m (m + 1)) a (m + 1) := by
  have hp : Parted K f a m (m + 1) s (m + 1) := ⟨has, hsm, by omega, by omega, hl, sorted_one (by omega), fun i j h3 h4 h5 h6 => by
    obtain rfl : j = m := by omega
    exact hlow i h3 h4, fun i j _ _ h5 h6 => by omega, fun i j h3 h4 h5 h6 => by
    obtain rfl : j = m := by omega
    exact .inl (h2 i h3 h4)⟩
  refine hp.all (fun i j _ _ h5 h6 => by omega) (fun i j h3 h4 h5 h6 => ?_)
  obtain rfl : j = m := by omega
  have := h1 i h3 h4
  have := hlow i h3 (by omega)
  unfold Lt; omega
/-- one element goes into a run behind it -/
theorem insert_behind (hr : Sorted K f (a + 1) b) (hlow : ∀ k, a + 1 ≤ k → k < b → f a < f k) (hae : a + 1 ≤ e) (heb : e ≤ b) (h1 : ∀ k, a + 1 ≤ k → k < e → K (f k) < K (f a)) (h2 : ∀ k, e ≤ k → k < b → K (f a) ≤ K (f k)) : Sorted K (rot f a (a + 1) e) a b := by
  have hp : Parted K f a (a + 1) b a e := ⟨by omega, by omega, hae, heb, sorted_one (by omega), hr, fun i j h3 h4 h5 h6 => by
    obtain rfl : i = a := by omega
    exact hlow j h5 h6, fun i j h3 h4 _ _ => by omega, fun i j h3 h4 h5 h6 => by
    obtain rfl : i = a := by omega
    exact .inl (h1 j h5 h6)⟩
  refine hp.all (fun i j h3 h4 h5 h6 => ?_) (fun i j h3 h4 _ _ => by omega)
  obtain rfl : i = a := by omega
  have := h2 j h5 h6
  have := hlow j (by omega) h6
  unfold Lt; omega
/-- the place found by halving -/
theorem parted_of_search {n r0 a0 : Nat} (hl : Sorted K f a m) (hr : Sorted K f m b) (hlow : Low f a m b) (ha : a ≤ a0) (hs0 : a0 ≤ s) (hsr : s ≤ r0) (hrm : r0 ≤ m) (hn1 : m + r0 ≤ n) (hn2 : n ≤ b + a0)
    (hA : a0 = a ∨ a0 + b = n) (hR : r0 = m ∨ r0 + m = n) (h1 : ∀ c, a0 ≤ c → c < s → K (f c) ≤ K (f (n - 1 - c))) (h2 : ∀ c, s ≤ c → c < r0 → K (f (n - 1 - c)) < K (f c)) : Parted K f a m b s (n - s) := by
  refine ⟨by omega, by omega, by omega, by omega, hl, hr, hlow, fun i j k1 k2 k3 k4 => ?_, fun i j k1 k2 k3 k4 => ?_⟩
  · by_cases c : a0 < s
    · have e1 := h1 (s - 1) (by omega) (by omega)
      have e2 := hl.key (i := i) (j := s - 1) k1 (by omega) (by omega)
      have e3 := hr.key (i := n - 1 - (s - 1)) (j := j) (by omega) (by omega) k4
      have := hlow i j k1 (by omega) (by omega) k4
      unfold Lt; omega
    · exfalso; omega
  · by_cases c : s < r0
    · have e1 := h2 s (by omega) c
      have e2 := hl.key (i := s) (j := i) (by omega) k1 k2
      have e3 := hr.key (i := j) (j := n - 1 - s) k3 (by omega) (by omega)
      unfold Lt; omega
    · exfalso; omega
/-- what one test tells of the others -/
theorem test_up {n c c' : Nat} (hl : Sorted K f a m) (hr : Sorted K f m b) (h1 : a ≤ c) (h2 : c ≤ c') (h3 : c' < m) (h4 : m ≤ n - 1 - c') (h5 : n - 1 - c < b) (h : K (f (n - 1 - c)) < K (f c)) : K (f (n - 1 - c')) < K (f c') := by
  have e1 := hl.key (i := c) (j := c') h1 h2 h3
  have e2 := hr.key (i := n - 1 - c') (j := n - 1 - c) h4 (by omega) h5
  omega
theorem test_down {n c c' : Nat} (hl : Sorted K f a m) (hr : Sorted K f m b) (h1 : a ≤ c') (h2 : c' ≤ c) (h3 : c < m) (h4 : m ≤ n - 1 - c) (h5 : n - 1 - c' < b) (h : K (f c) ≤ K (f (n - 1 - c))) : K (f c') ≤ K (f (n - 1 - c')) := by
  have e1 := hl.key (i := c') (j := c) h1 h2 h3
  have e2 := hr.key (i := n - 1 - c) (j := n - 1 - c') h4 (by omega) h5
  omega
end
/-- one step of a turn by exchanges -/
theorem rot_up (f : Nat → Nat) (a k : Nat) (h : a ≤ k) : sw (rot f a (a + 1) (k + 1)) k (k + 1) = rot f a (a + 1) (k + 2) := by
  funext x
  unfold sw rot
  by_cases c1 : x = k
  · subst c1
    rw [if_pos rfl, if_neg (by omega), if_neg (by omega), if_pos (by omega)]
    try (congr 1 <;> omega)
  · rw [if_neg c1]
    by_cases c2 : x = k + 1
    · subst c2
      rw [if_pos rfl, if_neg (by omega), if_pos (by omega), if_neg (by omega), if_pos (by omega)]
      try (congr 1 <;> omega)
    · rw [if_neg c2]
      by_cases c3 : a ≤ x ∧ x < k
      · rw [if_pos (by omega), if_pos (by omega)]
      · rw [if_neg (by omega), if_neg (by omega), if_neg (by omega), if_neg (by omega)]
theorem rot_nothing (f : Nat → Nat) (a m : Nat) : rot f a m m = f := by
  funext x
  unfold rot
  rw [if_neg (by omega)]
  split
  · congr 1; omega
  · rfl
theorem rot_nothing' (f : Nat → Nat) (m b : Nat) : rot f m m b = f := by
  funext x
  unfold rot
  split
  · congr 1; omega
  · rw [if_neg (by omega)]
theorem rot_down (f : Nat → Nat) (k m : Nat) (h : 0 < k) (hm : k ≤ m) : sw (rot f k m (m + 1)) k (k - 1) = rot f (k - 1) m (m + 1) := by
  funext x
  unfold sw rot
  by_cases c1 : x = k
  · subst c1
    rw [if_pos rfl, if_neg (by omega), if_neg (by omega), if_neg (by omega), if_pos (by omega)]
    try (congr 1 <;> omega)
  · rw [if_neg c1]
    by_cases c2 : x = k - 1
    · subst c2
      rw [if_pos rfl, if_pos (by omega), if_pos (by omega)]
      try (congr 1 <;> omega)
    · rw [if_neg c2]
      by_cases c3 : k < x ∧ x < m + 1
      · rw [if_neg (by omega), if_pos (by omega), if_neg (by omega), if_pos (by omega)]
      · rw [if_neg (by omega), if_neg (by omega), if_neg (by omega), if_neg (by omega)]
end Go.Proofs.Ytmkbbfcecolobaa.Srt
