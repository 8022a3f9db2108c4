/-
  An evaluator of closed runs, thirteenth part: a region that draws its order ends as in the text's order.
-/
import Derived.Test.YtgndpodeedjohaaEvL
namespace Go.Ev
open Go.RowKit
set_option linter.unusedSimpArgs false
set_option linter.unnecessarySimpa false
set_option linter.unusedVariables false

def orA : List Rc → Nat
  | [] => 0
  | r :: rs => r.a ||| orA rs
def orW : List Rc → Nat
  | [] => 0
  | r :: rs => r.w ||| orW rs
theorem orA_bit {i : Nat} : ∀ {L : List Rc}, (orA L).testBit i = true ↔ ∃ r ∈ L, r.a.testBit i = true
  | [] => by simp [orA]
  | r :: rs => by simp [orA, Nat.testBit_or, orA_bit (L := rs)]
theorem orW_bit {i : Nat} : ∀ {L : List Rc}, (orW L).testBit i = true ↔ ∃ r ∈ L, r.w.testBit i = true
  | [] => by simp [orW]
  | r :: rs => by simp [orW, Nat.testBit_or, orW_bit (L := rs)]
def evD (P : Program) (call : Callee) (ops : Array Oper) (fr : Fr) (s : St) : Option (Fr × St) :=
  if okOps ops.toList then match pms ops with
    | some pm => if okT ops pm then match runD P call ops ops.toList fr s with
        | some (L, fr', s') => if okH L pm then some (fr', { hp := s'.hp, nx := s'.nx, ac := s.ac ||| orA L, wr := s.wr ||| orW L }) else none
        | none => none
      else none
    | none => none
  else none
theorem put_slot {fr fr' : Fr} {d : Option Tmp} {v : Value} (h : fr.put d v = some fr') : fr'.n = fr.n ∧ (∀ t, d = some t → t < fr.n) ∧ ∀ t, fr'.slot t = if d = some t then v else fr.slot t := by
  unfold Fr.put at h
  cases d with
  | none => cases h; exact ⟨rfl, (fun t h => by cases h), fun t => by simp⟩
  | some t =>
    simp only at h
    split at h
    · rename_i hlt
      simp only [Bool.and_eq_true, blt_iff] at hlt
      cases h
      have hid : @LT.lt Nat _ (@HAdd.hAdd Nat Nat Nat _ t 1) ((2 : Nat) ^ 40) := by
        have h1 := hlt.2
        have h2 : top = 1000000 := rfl
        omega
      refine ⟨rfl, (fun u hu => by cases hu; exact hlt.1), fun u => ?_⟩
      unfold Fr.slot
      rw [Tr.get_set _ _ _ _ _ hid]
      by_cases hu : u = t
      · subst hu; simp
      · have hne : ¬ t = u := fun e => hu e.symm
        simp [hu, hne]
    · cases h
theorem yield_slot {m : Mu} {fr : Fr} {a : Act} (ops : Array Oper) (j : Nat) (h : ∀ d, (ops.toList[j]?).bind (·.dst) = some d → dn m (fr.slot d) = some (a.tmps.getD d undef)) : yielded ops a.tmps j = evYield ops fr j := by
  unfold yielded evYield
  rw [Array.getElem?_toList] at *
  cases hd : (ops[j]?).bind (·.dst) with
  | none => rfl
  | some d =>
    simp only [Option.bind_some]
    have hs := h d hd
    rw [Array.getD_eq_getD_getElem?] at hs
    cases ht : a.tmps[d]? with
    | none =>
      rw [ht] at hs
      simp only [Option.getD_none] at hs
      cases hx : fr.slot d with
      | bool b => rw [hx] at hs; cases hs
      | _ => rfl
    | some v' =>
      rw [ht] at hs
      simp only [Option.getD_some] at hs
      cases v' with
      | bool b => rw [dn_bool hs]
      | _ =>
        cases hx : fr.slot d with
        | bool b => rw [hx] at hs; cases hs
        | _ => rfl
theorem beq_or {a b l : Nat} (h : (a ||| b).testBit l = true) : Nat.beq (a ||| b) 0 = false := by
  apply beq_f
  intro e
  rw [e] at h
  simp at h
theorem conf {wi ai wj aj l : Nat} (h : wi.testBit l = true ∧ (aj.testBit l = true ∨ wj.testBit l = true) ∨ wj.testBit l = true ∧ (ai.testBit l = true ∨ wi.testBit l = true)) :
    Nat.beq ((wi &&& (aj ||| wj)) ||| (wj &&& ai)) 0 = false := by
  apply beq_or (l := l)
  simp only [Nat.testBit_or, Nat.testBit_and, Bool.or_eq_true, Bool.and_eq_true]
  rcases h with ⟨h1, h2⟩ | ⟨h1, h2 | h2⟩
  · exact .inl ⟨h1, h2⟩
  · exact .inr ⟨h1, h2⟩
  · exact .inl ⟨h2, .inr h1⟩
/-- how many are still to come -/
def left (l : List Bool) : Nat := (l.filter (!·)).length
theorem left_set : ∀ {l : List Bool} {i : Nat}, l[i]? = some false → left (l.set i true) + 1 = left l
  | x :: xs, 0, h => by simp at h; subst h; simp [left]
  | x :: xs, i + 1, h => by
    have := left_set (l := xs) (i := i) (by simpa using h)
    cases x <;> simp [left] at this ⊢ <;> omega
  | [], i, h => by simp at h
theorem left_zero : ∀ {l : List Bool}, left l = 0 → ∀ (i : Nat) (b : Bool), l[i]? = some b → b = true
  | x :: xs, h, 0, b, hb => by simp at hb; subst hb; cases x <;> simp [left] at h ⊢
  | x :: xs, h, i + 1, b, hb => by
    refine left_zero (l := xs) ?_ i b (by simpa using hb)
    cases x <;> simp [left] at h ⊢ <;> exact h
  | [], _, i, b, hb => by simp at hb
theorem left_all (n : Nat) : left (List.replicate n false) = n := by simp [left]
end Go.Ev
