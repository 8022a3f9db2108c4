/-
  An evaluator of closed runs, twelfth part: a region that draws its order: the run in the text's order, and what must be ordered.
-/
import Derived.Test.YtgndpodeedjohaaEvK
namespace Go.Ev
open Go.RowKit
set_option linter.unusedSimpArgs false
set_option linter.unnecessarySimpa false
set_option linter.unusedVariables false

/-! ### places, and who writes them -/
/-- what stands at a place once the operations of S are done -/
def seen {V : Type} (σ : Nat → Nat → V) (W : Nat → Nat → Bool) (S : Nat → Bool) : Nat → Nat → V
  | 0, l => σ 0 l
  | k + 1, l => if S k && W k l then σ (k + 1) l else seen σ W S k l
structure Tidy {V : Type} (n : Nat) (σ : Nat → Nat → V) (W A pm : Nat → Nat → Bool) : Prop where
  keep : ∀ i l, i < n → W i l = false → σ (i + 1) l = σ i l
  sub : ∀ i l, i < n → W i l = true → A i l = true
  ord : ∀ i j l, i < j → j < n → (W i l = true ∧ A j l = true ∨ W j l = true ∧ A i l = true) → pm j i = true
section
variable {V : Type} {n : Nat} {σ : Nat → Nat → V} {W A pm : Nat → Nat → Bool} {S : Nat → Bool}
theorem seen_at (h : Tidy n σ W A pm) (hcl : ∀ k i, k < n → S k = true → pm k i = true → S i = true) {i : Nat} (hi : i < n) (hs : S i = false) (hp : ∀ j, pm i j = true → S j = true) {l : Nat} (hA : A i l = true) : seen σ W S n l = σ i l := by
  have h1 : ∀ k, k ≤ i → seen σ W S k l = σ k l := by
    intro k
    induction k with
    | zero => intro _; rfl
    | succ k ih =>
      intro hk
      simp only [seen]
      cases hW : W k l with
      | false => simp only [Bool.and_false, Bool.false_eq_true, if_false]; rw [ih (by omega), h.keep k l (by omega) hW]
      | true =>
        have : S k = true := hp k (h.ord k i l (by omega) hi (.inl ⟨hW, hA⟩))
        simp [this]
  have h2 : ∀ d, i + d ≤ n → seen σ W S (i + d) l = σ i l := by
    intro d
    induction d with
    | zero => intro _; exact h1 i (Nat.le_refl _)
    | succ d ih =>
      intro hd
      rw [← Nat.add_assoc]
      simp only [seen]
      have hno : (S (i + d) && W (i + d) l) = false := by
        cases hS : S (i + d) with
        | false => rfl
        | true =>
          cases hW : W (i + d) l with
          | false => rfl
          | true =>
            by_cases h0 : d = 0
            · subst h0; rw [Nat.add_zero, hs] at hS; cases hS
            · have := hcl (i + d) i (by omega) hS (h.ord i (i + d) l (by omega) (by omega) (.inr ⟨hW, hA⟩))
              rw [hs] at this; cases this
      simp only [hno, Bool.false_eq_true, if_false]
      exact ih (by omega)
  have := h2 (n - i) (by omega)
  rwa [show i + (n - i) = n by omega] at this
def with_ (S : Nat → Bool) (i : Nat) : Nat → Bool := fun k => S k || Nat.beq k i
theorem with_ne {i k : Nat} (h : k ≠ i) : with_ S i k = S k := by unfold with_; rw [beq_f h]; simp
theorem with_eq (i : Nat) : with_ S i i = true := by unfold with_; simp
theorem seen_with (h : Tidy n σ W A pm) (hcl : ∀ k i, k < n → S k = true → pm k i = true → S i = true) {i : Nat} (hi : i < n) (hs : S i = false) (l : Nat) : seen σ W (with_ S i) n l = if W i l = true then σ (i + 1) l else seen σ W S n l := by
  have h1 : ∀ k, k ≤ i → seen σ W (with_ S i) k l = seen σ W S k l := by
    intro k
    induction k with
    | zero => intro _; rfl
    | succ k ih =>
      intro hk
      simp only [seen]
      rw [with_ne (by omega), ih (by omega)]
  have h2 : ∀ d, i + 1 + d ≤ n → seen σ W (with_ S i) (i + 1 + d) l = if W i l = true then σ (i + 1) l else seen σ W S (i + 1 + d) l := by
    intro d
    induction d with
    | zero =>
      intro _
      simp only [Nat.add_zero, seen, with_eq, hs, Bool.true_and, Bool.false_and, Bool.false_eq_true, if_false]
      rw [h1 i (Nat.le_refl _)]
    | succ d ih =>
      intro hd
      rw [← Nat.add_assoc]
      simp only [seen]
      rw [with_ne (show i + 1 + d ≠ i by omega), ih (by omega)]
      by_cases hW : W i l = true
      · have hno : (S (i + 1 + d) && W (i + 1 + d) l) = false := by
          cases hS : S (i + 1 + d) with
          | false => rfl
          | true =>
            cases hW2 : W (i + 1 + d) l with
            | false => rfl
            | true =>
              have := hcl (i + 1 + d) i (by omega) hS (h.ord i (i + 1 + d) l (by omega) (by omega) (.inl ⟨hW, h.sub _ _ (by omega) hW2⟩))
              rw [hs] at this; cases this
        simp only [hno, Bool.false_eq_true, if_false, hW, if_true]
      · simp only [hW, Bool.false_eq_true, if_false]
  have := h2 (n - (i + 1)) (by omega)
  rwa [show i + 1 + (n - (i + 1)) = n by omega] at this
theorem seen_all (h : Tidy n σ W A pm) (hs : ∀ k, k < n → S k = true) (l : Nat) : seen σ W S n l = σ n l := by
  have : ∀ k, k ≤ n → seen σ W S k l = σ k l := by
    intro k
    induction k with
    | zero => intro _; rfl
    | succ k ih =>
      intro hk
      simp only [seen, hs k (by omega), Bool.true_and]
      cases hW : W k l with
      | true => simp
      | false => simp only [Bool.false_eq_true, if_false]; rw [ih (by omega), h.keep k l (by omega) hW]
  exact this n (Nat.le_refl _)
theorem seen_none {l : Nat} (hW : ∀ k, k < n → S k = true → W k l = true → False) : seen σ W S n l = σ 0 l := by
  have : ∀ k, k ≤ n → seen σ W S k l = σ 0 l := by
    intro k
    induction k with
    | zero => intro _; rfl
    | succ k ih =>
      intro hk
      simp only [seen]
      cases hs : S k with
      | false => simp only [Bool.false_and, Bool.false_eq_true, if_false]; exact ih (by omega)
      | true =>
        cases hw : W k l with
        | false => simp only [Bool.and_false, Bool.false_eq_true, if_false]; exact ih (by omega)
        | true => exact (hW k (by omega) hs hw).elim
  exact this n (Nat.le_refl _)
theorem seen_not {l : Nat} (hW : ∀ k, k < n → W k l = false) : seen σ W S n l = σ 0 l := by
  have : ∀ k, k ≤ n → seen σ W S k l = σ 0 l := by
    intro k
    induction k with
    | zero => intro _; rfl
    | succ k ih =>
      intro hk
      simp only [seen, hW k (by omega), Bool.and_false, Bool.false_eq_true, if_false]
      exact ih (by omega)
  exact this n (Nat.le_refl _)
end

/-! ### the run in the text's order -/
structure Rc where
  lo : Nat
  hi : Nat
  w : Nat
  a : Nat
def St.zero (s : St) : St := { hp := s.hp, nx := s.nx, ac := 0, wr := 0 }
def runD (P : Program) (call : Callee) (ops : Array Oper) : List Oper → Fr → St → Option (List Rc × Fr × St)
  | [], fr, s => some ([], fr, s.zero)
  | o :: rest, fr, s =>
    if evWanted ops fr o then
      match evStep P call o fr s.zero with
      | some (v, s1) => match fr.put o.dst v with
        | some fr1 => match runD P call ops rest fr1 s1 with
          | some (L, y) => some (⟨s.nx, s1.nx, s1.wr, s1.ac⟩ :: L, y)
          | none => none
        | none => none
      | none => none
    else match fr.put o.dst undef with
      | some fr1 => match runD P call ops rest fr1 s with
        | some (L, y) => some (⟨s.nx, s.nx, 0, 0⟩ :: L, y)
        | none => none
      | none => none
/-- what one operation of the run did -/
def Did1 (P : Program) (call : Callee) (ops : Array Oper) (o : Oper) (r : Rc) (fr fr' : Fr) (s s' : St) : Prop :=
  ∃ v s1, r = ⟨s.nx, s1.nx, s1.wr, s1.ac⟩ ∧ s' = s1.zero ∧ fr.put o.dst v = some fr' ∧
    ((evWanted ops fr o = true ∧ evStep P call o fr s = some (v, s1)) ∨ (evWanted ops fr o = false ∧ v = undef ∧ s1 = s))
theorem runD_spec {P : Program} {call : Callee} {ops : Array Oper} : ∀ (l : List Oper) (fr : Fr) (s : St) (L : List Rc) (fr' : Fr) (s' : St), runD P call ops l fr s = some (L, fr', s') →
    L.length = l.length ∧ ∃ (F : Nat → Fr) (T : Nat → St), F 0 = fr ∧ T 0 = s.zero ∧ F l.length = fr' ∧ T l.length = s' ∧
      ∀ i o, l[i]? = some o → ∃ r, L[i]? = some r ∧ Did1 P call ops o r (F i) (F (i + 1)) (T i) (T (i + 1))
  | [], fr, s, L, fr', s', h => by
    simp only [runD] at h
    cases h
    exact ⟨rfl, fun _ => fr, fun _ => s.zero, rfl, rfl, rfl, rfl, fun i o h => by simp at h⟩
  | o :: rest, fr, s, L, fr', s', h => by
    simp only [runD] at h
    split at h
    · rename_i hw
      split at h
      · rename_i v s1 hs
        split at h
        · rename_i fr1 hp
          split at h
          · rename_i L1 y hr
            cases h
            obtain ⟨hl, F, T, f0, t0, fn, tn, hall⟩ := runD_spec rest fr1 s1 L1 fr' s' hr
            refine ⟨by simp [hl], fun i => match i with | 0 => fr | i + 1 => F i, fun i => match i with | 0 => s.zero | i + 1 => T i, rfl, rfl, fn, tn, fun i o' hi => ?_⟩
            cases i with
            | zero =>
              simp at hi
              subst hi
              exact ⟨_, rfl, v, s1, rfl, t0, by simpa [f0] using hp, .inl ⟨hw, hs⟩⟩
            | succ i => exact hall i o' (by simpa using hi)
          · cases h
        · cases h
      · cases h
    · rename_i hw
      have hw : evWanted ops fr o = false := by simpa using hw
      split at h
      · rename_i fr1 hp
        split at h
        · rename_i L1 y hr
          cases h
          obtain ⟨hl, F, T, f0, t0, fn, tn, hall⟩ := runD_spec rest fr1 s L1 fr' s' hr
          refine ⟨by simp [hl], fun i => match i with | 0 => fr | i + 1 => F i, fun i => match i with | 0 => s.zero | i + 1 => T i, rfl, rfl, fn, tn, fun i o' hi => ?_⟩
          cases i with
          | zero =>
            simp at hi
            subst hi
            exact ⟨_, rfl, undef, s.zero, rfl, t0, by simpa [f0] using hp, .inr ⟨hw, rfl, rfl⟩⟩
          | succ i => exact hall i o' (by simpa using hi)
        · cases h
      · cases h

/-! ### what must be ordered -/
def maskX (x : Operand) : Nat :=
  match x with
  | .tmp t => 2 ^ t
  | _ => 0
def maskL : List Operand → Nat
  | [] => 0
  | x :: xs => maskX x ||| maskL xs
def tw (o : Oper) : Nat :=
  match o.dst with
  | some d => 2 ^ d
  | none => 0
def tr (ops : Array Oper) (o : Oper) : Nat :=
  maskL o.op.operands.toList ||| (match o.guard with
    | some (j, _) => match (ops.toList[j]?).bind (·.dst) with
      | some d => 2 ^ d
      | none => 0
    | none => 0)
theorem maskL_bit {t : Nat} : ∀ {xs : List Operand}, .tmp t ∈ xs → (maskL xs).testBit t = true
  | x :: xs, h => by
    simp only [maskL, Nat.testBit_or, Bool.or_eq_true]
    rcases List.mem_cons.1 h with rfl | h
    · left; simp [maskX, Nat.testBit_two_pow]
    · right; exact maskL_bit h
theorem tr_operand {ops : Array Oper} {o : Oper} {t : Nat} (h : .tmp t ∈ o.op.operands) : (tr ops o).testBit t = true := by
  unfold tr
  rw [Nat.testBit_or, maskL_bit (by simpa using h)]
  rfl
theorem tr_guard {ops : Array Oper} {o : Oper} {j d : Nat} {b : Bool} (h : o.guard = some (j, b)) (hd : (ops.toList[j]?).bind (·.dst) = some d) : (tr ops o).testBit d = true := by
  unfold tr
  rw [Nat.testBit_or, h]
  simp only [hd, Nat.testBit_two_pow, decide_true, Bool.or_true]
theorem tw_bit {o : Oper} {t : Nat} : (tw o).testBit t = true ↔ o.dst = some t := by
  unfold tw
  cases o.dst with
  | none => simp
  | some d => simp [Nat.testBit_two_pow]
def edgesM (acc : List Nat) : List Edge → Option Nat
  | [] => some 0
  | e :: es =>
    if Region.binds .any e then match acc[e.on]?, edgesM acc es with
      | some p, some r => some (2 ^ e.on ||| p ||| r)
      | _, _ => none
    else edgesM acc es
def pmsGo : List Oper → List Nat → Option (List Nat)
  | [], acc => some acc
  | o :: rest, acc => match edgesM acc o.after.toList with
    | some k => pmsGo rest (acc ++ [k])
    | none => none
def pms (ops : Array Oper) : Option (List Nat) := pmsGo ops.toList []
theorem edgesM_spec {acc : List Nat} : ∀ {es : List Edge} {k : Nat}, edgesM acc es = some k → (∀ e ∈ es, Region.binds .any e = true → e.on < acc.length) ∧
    ∀ j, k.testBit j = true → ∃ e ∈ es, Region.binds .any e = true ∧ (j = e.on ∨ ∃ p, acc[e.on]? = some p ∧ p.testBit j = true)
  | [], k, h => by
    simp only [edgesM] at h
    cases h
    exact ⟨fun e he => by simp at he, fun j hj => by simp at hj⟩
  | e :: es, k, h => by
    simp only [edgesM] at h
    split at h
    · rename_i hb
      split at h
      · rename_i p r hp hr
        cases h
        obtain ⟨h1, h2⟩ := edgesM_spec hr
        refine ⟨fun e' he' hb' => ?_, fun j hj => ?_⟩
        · rcases List.mem_cons.1 he' with rfl | he'
          · exact (List.getElem?_eq_some_iff.1 hp).1
          · exact h1 e' he' hb'
        · rw [Nat.testBit_or, Nat.testBit_or, Nat.testBit_two_pow, Bool.or_eq_true, Bool.or_eq_true] at hj
          rcases hj with (hj | hj) | hj
          · exact ⟨e, by simp, hb, .inl (of_decide_eq_true hj).symm⟩
          · exact ⟨e, by simp, hb, .inr ⟨p, hp, hj⟩⟩
          · obtain ⟨e', he', h3, h4⟩ := h2 j hj
            exact ⟨e', by simp [he'], h3, h4⟩
      · cases h
    · rename_i hb
      obtain ⟨h1, h2⟩ := edgesM_spec h
      refine ⟨fun e' he' hb' => ?_, fun j hj => ?_⟩
      · rcases List.mem_cons.1 he' with rfl | he'
        · exact absurd hb' hb
        · exact h1 e' he' hb'
      · obtain ⟨e', he', h3, h4⟩ := h2 j hj
        exact ⟨e', by simp [he'], h3, h4⟩
theorem pmsGo_spec : ∀ (l : List Oper) (acc : List Nat) (pm : List Nat), pmsGo l acc = some pm → pm.length = acc.length + l.length ∧ (∀ i, i < acc.length → pm[i]? = acc[i]?) ∧
    ∀ i o, l[i]? = some o → (∀ e ∈ o.after.toList, Region.binds .any e = true → e.on < acc.length + i) ∧
      ∃ k, pm[acc.length + i]? = some k ∧ ∀ j, k.testBit j = true → ∃ e ∈ o.after.toList, Region.binds .any e = true ∧ (j = e.on ∨ ∃ p, pm[e.on]? = some p ∧ p.testBit j = true)
  | [], acc, pm, h => by
    simp only [pmsGo] at h
    cases h
    exact ⟨rfl, fun _ _ => rfl, fun i o h => by simp at h⟩
  | o :: rest, acc, pm, h => by
    simp only [pmsGo] at h
    split at h
    · rename_i k hk
      obtain ⟨h1, h2, h3⟩ := pmsGo_spec rest (acc ++ [k]) pm h
      obtain ⟨e1, e2⟩ := edgesM_spec hk
      have hacc : ∀ i, i < acc.length → pm[i]? = acc[i]? := fun i hi => by
        rw [h2 i (by simp; omega), List.getElem?_append_left hi]
      refine ⟨by rw [h1]; simp; omega, hacc, fun i o' hi => ?_⟩
      cases i with
      | zero =>
        simp at hi
        subst hi
        refine ⟨fun e he hb => by simpa using e1 e he hb, k, ?_, fun j hj => ?_⟩
        · rw [Nat.add_zero, h2 acc.length (by simp)]; simp
        · obtain ⟨e, he, hb, hj'⟩ := e2 j hj
          refine ⟨e, he, hb, hj'.imp id ?_⟩
          rintro ⟨p, hp, hpj⟩
          exact ⟨p, by rw [hacc e.on (e1 e he hb)]; exact hp, hpj⟩
      | succ i =>
        have := h3 i o' (by simpa using hi)
        simpa [Nat.add_assoc, Nat.add_comm 1 i] using this
    · cases h
/-- each two of a list -/
def pairsT (x : Nat × Nat) (i : Nat) : List (Nat × Nat × Nat) → Bool
  | [] => true
  | y :: ys => (Nat.beq ((x.2 &&& (y.1 ||| y.2.1)) ||| (y.2.1 &&& x.1)) 0 || y.2.2.testBit i) && pairsT x i ys
def allT : List (Nat × Nat × Nat) → Nat → Bool
  | [], _ => true
  | x :: xs, i => pairsT (x.1, x.2.1) i xs && allT xs (i + 1)
theorem pairsT_spec {x : Nat × Nat} {i : Nat} : ∀ {l : List (Nat × Nat × Nat)}, pairsT x i l = true → ∀ (j : Nat) (y : Nat × Nat × Nat), l[j]? = some y → (Nat.beq ((x.2 &&& (y.1 ||| y.2.1)) ||| (y.2.1 &&& x.1)) 0 || y.2.2.testBit i) = true
  | [], _, j, y, h => by simp at h
  | z :: zs, h, j, y, hj => by
    simp only [pairsT, Bool.and_eq_true] at h
    cases j with
    | zero => simp at hj; subst hj; exact h.1
    | succ j => exact pairsT_spec h.2 j y (by simpa using hj)
theorem allT_spec : ∀ {l : List (Nat × Nat × Nat)} {b : Nat}, allT l b = true → ∀ (i j : Nat) (x y : Nat × Nat × Nat), i < j → l[i]? = some x → l[j]? = some y → (Nat.beq ((x.2.1 &&& (y.1 ||| y.2.1)) ||| (y.2.1 &&& x.1)) 0 || y.2.2.testBit (b + i)) = true
  | [], _, _, i, j, x, y, _, h, _ => by simp at h
  | z :: zs, b, h, i, j, x, y, hij, hi, hj => by
    simp only [allT, Bool.and_eq_true] at h
    cases j with
    | zero => omega
    | succ j =>
      have hj : zs[j]? = some y := by simpa using hj
      cases i with
      | zero =>
        simp at hi
        subst hi
        simpa using pairsT_spec h.1 j y hj
      | succ i =>
        have := allT_spec h.2 i j x y (by omega) (by simpa using hi) hj
        rwa [show b + 1 + i = b + (i + 1) by omega] at this
def zip3 : List Nat → List Nat → List Nat → List (Nat × Nat × Nat)
  | a :: xs, b :: ys, c :: zs => (a, b, c) :: zip3 xs ys zs
  | _, _, _ => []
theorem zip3_at : ∀ {xs ys zs : List Nat} {i a b c : Nat}, xs[i]? = some a → ys[i]? = some b → zs[i]? = some c → (zip3 xs ys zs)[i]? = some (a, b, c)
  | x :: xs, y :: ys, z :: zs, 0, _, _, _, h1, h2, h3 => by simp at h1 h2 h3; subst h1 h2 h3; rfl
  | x :: xs, y :: ys, z :: zs, i + 1, _, _, _, h1, h2, h3 => by
    simp only [List.getElem?_cons_succ] at h1 h2 h3
    show (zip3 xs ys zs)[i]? = _
    exact zip3_at (xs := xs) (ys := ys) (zs := zs) (i := i) h1 h2 h3
  | [], _, _, _, _, _, _, h1, _, _ => by simp at h1
  | _ :: _, [], _, _, _, _, _, _, h2, _ => by simp at h2
  | _ :: _, _ :: _, [], _, _, _, _, _, _, h3 => by simp at h3
def rng (a b : Nat) : Nat := (2 ^ (b - a) - 1) <<< a
theorem rng_bit {a b i : Nat} : (rng a b).testBit i = true ↔ a ≤ i ∧ i < b := by
  unfold rng
  rw [Nat.testBit_shiftLeft, Nat.testBit_two_pow_sub_one]
  simp
  omega
def wOf (r : Rc) : Nat := r.w ||| rng r.lo r.hi
def aOf (r : Rc) : Nat := r.a ||| rng r.lo r.hi
def okT (ops : Array Oper) (pm : List Nat) : Bool := allT (zip3 (ops.toList.map (tr ops)) (ops.toList.map tw) pm) 0
def okH (L : List Rc) (pm : List Nat) : Bool := L.all (fun r => Nat.beq (wOf r) 0) || allT (zip3 (L.map aOf) (L.map wOf) pm) 0
end Go.Ev
