/-
  A stable sort in place, in plain Lean: places moved about, runs merged. No program and no memory.
-/
import Derived.Test.YtmkbbfcecolobaaChecked
namespace Go.Proofs.Ytmkbbfcecolobaa.Srt
set_option linter.unusedVariables false
set_option linter.unusedSimpArgs false

/-- g is f with its places from a on, below b, moved about -/
def Mv (a b : Nat) (f g : Nat → Nat) : Prop := ∃ π π' : Nat → Nat, (∀ k, π (π' k) = k) ∧ (∀ k, π' (π k) = k) ∧ (∀ k, (k < a ∨ b ≤ k) → π k = k) ∧ ∀ k, g k = f (π k)
theorem Mv.refl (a b : Nat) (f : Nat → Nat) : Mv a b f f := ⟨fun k => k, fun k => k, fun _ => rfl, fun _ => rfl, fun _ _ => rfl, fun _ => rfl⟩
theorem Mv.trans {a b : Nat} {f g h : Nat → Nat} (h1 : Mv a b f g) (h2 : Mv a b g h) : Mv a b f h := by
  obtain ⟨p, p', e1, e2, e3, e4⟩ := h1
  obtain ⟨q, q', k1, k2, k3, k4⟩ := h2
  refine ⟨fun k => p (q k), fun k => q' (p' k), fun k => by simp only [k1, e1], fun k => by simp only [e2, k2], fun k hk => by simp only [k3 k hk, e3 k hk], fun k => by rw [k4, e4]⟩
theorem Mv.mono {a b a' b' : Nat} {f g : Nat → Nat} (h : Mv a b f g) (ha : a' ≤ a) (hb : b ≤ b') : Mv a' b' f g := by
  obtain ⟨p, p', e1, e2, e3, e4⟩ := h
  exact ⟨p, p', e1, e2, fun k hk => e3 k (by omega), e4⟩
theorem Mv.out {a b : Nat} {f g : Nat → Nat} (h : Mv a b f g) (k : Nat) (hk : k < a ∨ b ≤ k) : g k = f k := by
  obtain ⟨p, p', e1, e2, e3, e4⟩ := h
  rw [e4, e3 k hk]
/-- what stands in it stood in it -/
theorem Mv.at_ {a b : Nat} {f g : Nat → Nat} (h : Mv a b f g) (k : Nat) (h1 : a ≤ k) (h2 : k < b) : ∃ j, a ≤ j ∧ j < b ∧ g k = f j := by
  obtain ⟨p, p', e1, e2, e3, e4⟩ := h
  refine ⟨p k, ?_, ?_, e4 k⟩
  · by_cases hc : a ≤ p k
    · exact hc
    · exfalso
      have h0 := e3 (p k) (by omega)
      have h3 := congrArg p' h0
      rw [e2, e2] at h3
      omega
  · by_cases hc : p k < b
    · exact hc
    · exfalso
      have h0 := e3 (p k) (by omega)
      have h3 := congrArg p' h0
      rw [e2, e2] at h3
      omega
theorem Mv.symm {a b : Nat} {f g : Nat → Nat} (h : Mv a b f g) : Mv a b g f := by
  obtain ⟨p, p', e1, e2, e3, e4⟩ := h
  refine ⟨p', p, e2, e1, fun k hk => ?_, fun k => by rw [e4, e1]⟩
  have := e3 k hk
  have h2 := e2 k
  rw [this] at h2
  exact h2
def Inj (f : Nat → Nat) : Prop := ∀ i j, f i = f j → i = j
theorem Mv.inj {a b : Nat} {f g : Nat → Nat} (h : Mv a b f g) (hf : Inj f) : Inj g := by
  obtain ⟨p, p', e1, e2, e3, e4⟩ := h
  intro i j e
  rw [e4, e4] at e
  have := congrArg p' (hf _ _ e)
  rwa [e2, e2] at this
/-- two places are exchanged -/
def sw (f : Nat → Nat) (i j : Nat) : Nat → Nat := fun k => if k = i then f j else if k = j then f i else f k
theorem sw_mv {a b i j : Nat} (f : Nat → Nat) (hi : a ≤ i ∧ i < b) (hj : a ≤ j ∧ j < b) : Mv a b f (sw f i j) := by
  refine ⟨fun k => if k = i then j else if k = j then i else k, fun k => if k = i then j else if k = j then i else k, fun k => ?_, fun k => ?_, fun k hk => ?_, fun k => ?_⟩
  · by_cases h1 : k = i
    · subst h1; simp
    · by_cases h2 : k = j
      · subst h2; simp [h1]
      · simp [h1, h2]
  · by_cases h1 : k = i
    · subst h1; simp
    · by_cases h2 : k = j
      · subst h2; simp [h1]
      · simp [h1, h2]
  · have h1 : ¬ k = i := by omega
    have h2 : ¬ k = j := by omega
    simp [h1, h2]
  · unfold sw
    by_cases h1 : k = i
    · simp only [if_pos h1]
    · simp only [if_neg h1]
      by_cases h2 : k = j
      · simp only [if_pos h2]
      · simp only [if_neg h2]
/-- n places from a on, and n from b on, are exchanged -/
def swR (f : Nat → Nat) (a b n : Nat) : Nat → Nat := fun k => if a ≤ k ∧ k < a + n then f (k - a + b) else if b ≤ k ∧ k < b + n then f (k - b + a) else f k
theorem swR_zero (f : Nat → Nat) (a b : Nat) : swR f a b 0 = f := by
  funext k
  unfold swR
  rw [if_neg (by omega), if_neg (by omega)]
theorem swR_succ (f : Nat → Nat) (a b n : Nat) (h : a + (n + 1) ≤ b) : sw (swR f a b n) (a + n) (b + n) = swR f a b (n + 1) := by
  funext k
  unfold sw swR
  by_cases h1 : k = a + n
  · subst h1
    rw [if_pos rfl, if_neg (by omega), if_neg (by omega), if_pos (by omega)]
    try (congr 1 <;> omega)
  · rw [if_neg h1]
    by_cases h2 : k = b + n
    · subst h2
      rw [if_pos rfl, if_neg (by omega), if_neg (by omega), if_neg (by omega), if_pos (by omega)]
      try (congr 1 <;> omega)
    · rw [if_neg h2]
      by_cases h3 : a ≤ k ∧ k < a + n
      · rw [if_pos h3, if_pos (by omega)]
      · rw [if_neg h3]
        by_cases h4 : b ≤ k ∧ k < b + n
        · rw [if_pos h4, if_neg (by omega), if_pos (by omega)]
        · rw [if_neg h4, if_neg (by omega), if_neg (by omega)]
/-- what stands from m on, below b, comes ahead of what stands from a on, below m -/
def rot (f : Nat → Nat) (a m b : Nat) : Nat → Nat := fun k => if a ≤ k ∧ k < a + (b - m) then f (k - a + m) else if a + (b - m) ≤ k ∧ k < b then f (k - (b - m)) else f k
theorem rot_left (f : Nat → Nat) (m i j : Nat) (hi : i ≤ m) (hij : j < i) : rot (swR f (m - i) m j) (m - (i - j)) m (m + j) = rot f (m - i) m (m + j) := by
  funext k
  unfold rot swR
  by_cases h1 : m - i ≤ k ∧ k < m - i + j
  · rw [if_neg (by omega), if_neg (by omega), if_pos h1, if_pos (by omega)]
  · by_cases h2 : m - i + j ≤ k ∧ k < m - i + j + j ∧ k < m
    · rw [if_pos (by omega), if_neg (by omega), if_pos (by omega), if_neg (by omega), if_pos (by omega)]
      try (congr 1 <;> omega)
    · by_cases h3 : m - (i - j) ≤ k ∧ k < m - (i - j) + j
      · rw [if_pos (by omega), if_neg (by omega), if_pos (by omega), if_neg (by omega), if_pos (by omega)]
        try (congr 1 <;> omega)
      · by_cases h4 : m - (i - j) + j ≤ k ∧ k < m + j
        · rw [if_neg (by omega), if_pos (by omega), if_neg (by omega), if_neg (by omega), if_neg (by omega), if_pos (by omega)]
          try (congr 1 <;> omega)
        · rw [if_neg (by omega), if_neg (by omega), if_neg (by omega), if_neg (by omega), if_neg (by omega), if_neg (by omega)]
theorem rot_right (f : Nat → Nat) (m i j : Nat) (hi : i ≤ m) (hij : i < j) : rot (swR f (m - i) (m + j - i) i) (m - i) m (m + (j - i)) = rot f (m - i) m (m + j) := by
  funext k
  unfold rot swR
  by_cases h1 : m - i ≤ k ∧ k < m - i + (j - i)
  · rw [if_pos (by omega), if_neg (by omega), if_neg (by omega), if_pos (by omega)]
  · by_cases h2 : m - i + (j - i) ≤ k ∧ k < m + (j - i)
    · rw [if_neg (by omega), if_pos (by omega), if_pos (by omega), if_pos (by omega)]
      try (congr 1 <;> omega)
    · by_cases h3 : m + (j - i) ≤ k ∧ k < m + j
      · rw [if_neg (by omega), if_neg (by omega), if_neg (by omega), if_pos (by omega), if_neg (by omega), if_pos (by omega)]
        try (congr 1 <;> omega)
      · rw [if_neg (by omega), if_neg (by omega), if_neg (by omega), if_neg (by omega), if_neg (by omega), if_neg (by omega)]
theorem rot_last (f : Nat → Nat) (m i : Nat) (hi : i ≤ m) : swR f (m - i) m i = rot f (m - i) m (m + i) := by
  funext k
  unfold rot swR
  by_cases h1 : m - i ≤ k ∧ k < m - i + i
  · rw [if_pos h1, if_pos (by omega)]
  · rw [if_neg h1]
    by_cases h2 : m ≤ k ∧ k < m + i
    · rw [if_pos h2, if_neg (by omega), if_pos (by omega)]
      try (congr 1 <;> omega)
    · rw [if_neg h2, if_neg (by omega), if_neg (by omega)]
theorem rot_mv {a m b : Nat} (f : Nat → Nat) (h1 : a ≤ m) (h2 : m ≤ b) : Mv a b f (rot f a m b) := by
  refine ⟨fun k => if a ≤ k ∧ k < a + (b - m) then k - a + m else if a + (b - m) ≤ k ∧ k < b then k - (b - m) else k,
    fun k => if a ≤ k ∧ k < m then k + (b - m) else if m ≤ k ∧ k < b then k - m + a else k, fun k => ?_, fun k => ?_, fun k hk => ?_, fun k => ?_⟩
  · by_cases c1 : a ≤ k ∧ k < m
    · simp only [if_pos c1]
      rw [if_neg (by omega), if_pos (by omega)]; omega
    · simp only [if_neg c1]
      by_cases c2 : m ≤ k ∧ k < b
      · simp only [if_pos c2]
        rw [if_pos (by omega)]; omega
      · simp only [if_neg c2]
        rw [if_neg (by omega), if_neg (by omega)]
  · by_cases c1 : a ≤ k ∧ k < a + (b - m)
    · simp only [if_pos c1]
      rw [if_neg (by omega), if_pos (by omega)]; omega
    · simp only [if_neg c1]
      by_cases c2 : a + (b - m) ≤ k ∧ k < b
      · simp only [if_pos c2]
        rw [if_pos (by omega)]; omega
      · simp only [if_neg c2]
        rw [if_neg (by omega), if_neg (by omega)]
  · simp only
    rw [if_neg (by omega), if_neg (by omega)]
  · unfold rot
    by_cases c1 : a ≤ k ∧ k < a + (b - m)
    · simp only [if_pos c1]
    · simp only [if_neg c1]
      by_cases c2 : a + (b - m) ≤ k ∧ k < b
      · simp only [if_pos c2]
      · simp only [if_neg c2]
end Go.Proofs.Ytmkbbfcecolobaa.Srt
