/-
  An evaluator of closed runs: a call that comes out true; arguments opened.
-/
import Derived.Test.YtgndpodeedjohaaEvP
import Derived.KernelRfl
import Derived.WideShapes
namespace Go.Ev
open Go.RowKit
set_option linter.unusedSimpArgs false
set_option linter.unnecessarySimpa false
set_option linter.unusedVariables false

def evTrue (P : Program) (n k : Nat) (g : FuncId) (args : List Value) : Bool :=
  match evF P (evC P n) g args { hp := .leaf, nx := k, ac := 0, wr := 0 } with
  | some (.bool true, _) => true
  | _ => false
/-- blocks that came in, none of which is looked at, bear the names below k -/
theorem true_call {P : Program} (hm : P.follows .mixedOrders = true) (n k : Nat) {g : FuncId} {args args' : List Value} (h : evTrue P n k g args = true) (m0 : Mu) (hk : ∀ i, k ≤ i → m0 i = none) (hd : dnL (dn m0) args = some args') (w : World) :
    Calls P g args'.toArray w fun e w' => e = .returned (.bool true) ∧ Below w.heap.size w w' := by
  unfold evTrue at h
  split at h
  · rename_i s' he
    have hok := (says P hm n).call
    have hinv : Inv (fun _ => True) 0 s'.nx w.heap.size m0 { hp := .leaf, nx := k, ac := 0, wr := 0 } (fun _ => none) w :=
      ⟨⟨(fun _ _ h => by cases h), (fun _ _ _ _ _ _ h => by cases h)⟩, fun _ _ _ => rfl, fun i hi _ => ⟨hk i hi, rfl⟩, Nat.zero_le _, Nat.le_refl _⟩
    refine (hok.sp he ⟨Nat.le_refl _, fun _ _ _ => trivial⟩ hinv hd).mono ?_
    rintro e w' ⟨v', m', H', rfl, h1, h2, h3⟩
    have h1 : some (Value.bool true) = some v' := h1
    cases h1
    exact ⟨rfl, h3.bel⟩
  · cases h
theorem true_closed {P : Program} (hm : P.follows .mixedOrders = true) (n : Nat) {g : FuncId} {args : List Value} (h : evTrue P n 0 g args = true) (ha : args.all cl = true) (w : World) :
    Calls P g args.toArray w fun e w' => e = .returned (.bool true) ∧ Below w.heap.size w w' := by
  refine true_call hm n 0 h emp (fun _ _ => rfl) ?_ w
  rw [dnL_iff]
  apply List.map_congr_left
  intro x hx
  simp only [List.all_eq_true] at ha
  exact cl_dn (ha x hx) emp

theorem list_1 {α : Type} : ∀ {l : List α}, l.length = 1 → ∃ x0, l = [x0]
  | [x0], _ => ⟨_, rfl⟩
theorem list_2 {α : Type} : ∀ {l : List α}, l.length = 2 → ∃ x0 x1, l = [x0, x1]
  | [x0, x1], _ => ⟨_, _, rfl⟩
theorem list_3 {α : Type} : ∀ {l : List α}, l.length = 3 → ∃ x0 x1 x2, l = [x0, x1, x2]
  | [x0, x1, x2], _ => ⟨_, _, _, rfl⟩
theorem list_4 {α : Type} : ∀ {l : List α}, l.length = 4 → ∃ x0 x1 x2 x3, l = [x0, x1, x2, x3]
  | [x0, x1, x2, x3], _ => ⟨_, _, _, _, rfl⟩
theorem list_5 {α : Type} : ∀ {l : List α}, l.length = 5 → ∃ x0 x1 x2 x3 x4, l = [x0, x1, x2, x3, x4]
  | [x0, x1, x2, x3, x4], _ => ⟨_, _, _, _, _, rfl⟩
theorem list_6 {α : Type} : ∀ {l : List α}, l.length = 6 → ∃ x0 x1 x2 x3 x4 x5, l = [x0, x1, x2, x3, x4, x5]
  | [x0, x1, x2, x3, x4, x5], _ => ⟨_, _, _, _, _, _, rfl⟩
theorem list_7 {α : Type} : ∀ {l : List α}, l.length = 7 → ∃ x0 x1 x2 x3 x4 x5 x6, l = [x0, x1, x2, x3, x4, x5, x6]
  | [x0, x1, x2, x3, x4, x5, x6], _ => ⟨_, _, _, _, _, _, _, rfl⟩
theorem list_8 {α : Type} : ∀ {l : List α}, l.length = 8 → ∃ x0 x1 x2 x3 x4 x5 x6 x7, l = [x0, x1, x2, x3, x4, x5, x6, x7]
  | [x0, x1, x2, x3, x4, x5, x6, x7], _ => ⟨_, _, _, _, _, _, _, _, rfl⟩
theorem list_9 {α : Type} : ∀ {l : List α}, l.length = 9 → ∃ x0 x1 x2 x3 x4 x5 x6 x7 x8, l = [x0, x1, x2, x3, x4, x5, x6, x7, x8]
  | [x0, x1, x2, x3, x4, x5, x6, x7, x8], _ => ⟨_, _, _, _, _, _, _, _, _, rfl⟩
theorem list_10 {α : Type} : ∀ {l : List α}, l.length = 10 → ∃ x0 x1 x2 x3 x4 x5 x6 x7 x8 x9, l = [x0, x1, x2, x3, x4, x5, x6, x7, x8, x9]
  | [x0, x1, x2, x3, x4, x5, x6, x7, x8, x9], _ => ⟨_, _, _, _, _, _, _, _, _, _, rfl⟩
theorem dnL_cons {f : Value → Option Value} {v x : Value} {vs xs : List Value} (h : f v = some x) (k : dnL f vs = some xs) : dnL f (v :: vs) = some (x :: xs) := by
  simp only [dnL, h, k]
/-- one block that came in -/
def oneName (a : Addr) (c : Nat) : Mu := fun i => if i = 0 then some (a.block, c) else none
theorem oneName_none (a : Addr) (c : Nat) : ∀ i, 1 ≤ i → oneName a c i = none := fun i hi => by unfold oneName; rw [if_neg (by omega)]
theorem name_one (a : Addr) (n c : Nat) : dn (oneName a c) (.slice (some ⟨0, a.off, a.spot⟩) n unk) = some (.slice (some a) n c) := by
  rw [mk_slice (p := (a.block, c)) rfl, capOf_unk]
section
variable {P : Program} {w : World} {r : Reach} {base : Nat} {t : TypeId} {v : Value}
/-- a struct by value: its cells, each of its type -/
theorem open_cells {fs : Array Field} {ts : List TypeId} (hu : P.underlying t = some (.struct fs)) (hts : P.cellTypes P.depth t = some ts) (hn : P.cellsOf t = ts.length) (h : Value.okWide P w r base t v) :
    ∃ l : List Value, v = .agg l.toArray ∧ l.length = ts.length ∧ ∀ (i : Nat) (u : TypeId) (x : Value), ts[i]? = some u → l[i]? = some x → Cell.okWide P w r base u x := by
  simp only [Value.okWide, hu] at h
  obtain ⟨cs, rfl, hsz, ts', h1, _, h2⟩ := h
  rw [hts] at h1; cases h1
  refine ⟨cs.toList, by simp, by simp [hsz, hn], fun i u x hi hx => ?_⟩
  have hlt : i < ts.length := (List.getElem?_eq_some_iff.1 hi).1
  obtain ⟨u', h3, h4⟩ := h2 i x (by simpa using hx)
  rw [Nat.mod_eq_of_lt hlt, hi] at h3
  cases h3
  exact h4
theorem cell_int {k : IntKind} (hu : P.underlying t = some (.int k)) (h : Cell.okWide P w r base t v) : ∃ n, v = .int k n := by
  simp only [Cell.okWide, hu] at h
  cases v <;> simp_all [Cell.ok]
theorem cell_bool (hu : P.underlying t = some .bool) (h : Cell.okWide P w r base t v) : ∃ b, v = .bool b := by
  simp only [Cell.okWide, hu] at h
  cases v <;> simp_all [Cell.ok]
theorem cell_string (hu : P.underlying t = some .string) (h : Cell.okWide P w r base t v) : ∃ s, v = .string s := by
  simp only [Cell.okWide, hu] at h
  cases v <;> simp_all [Cell.ok]
theorem value_slice {e : TypeId} (hu : P.underlying t = some (.slice e)) (h : Value.okWide P w r base t v) : v = .slice none 0 0 ∨ ∃ a n c, v = .slice (some a) n c := by
  simp only [Value.okWide, hu, Cell.okWide] at h
  cases v with
  | slice a n c =>
    cases a with
    | none =>
      left
      cases n <;> cases c <;> simp_all [Cell.ok]
    | some a => exact .inr ⟨a, n, c, rfl⟩
  | _ => simp_all [Cell.ok]
end
end Go.Ev
namespace Go.Proofs.Ytgndpodeedjohaa
theorem mixed : Try.prog.follows .mixedOrders = true := by kernel_rfl
end Go.Proofs.Ytgndpodeedjohaa
