/-
  LocksTurn: what holds between the steps.
-/
import Derived.Test.YtkdiibgjkipdnaaLkT
namespace Go.Proofs.Ytkdiibgjkipdnaa
open Go.RowKit Go.Maps
set_option linter.unusedSimpArgs false
set_option linter.unusedVariables false

def holdA : List Nat → Int
  | [] => 0
  | k :: _ => 11 + (k : Int)
def holdG : List Nat → Int
  | [] => 0
  | _ :: _ => 1
theorem hold_zero (l : List Nat) : sameH (holdA l) (holdG l) 0 0 = l.isEmpty := by
  cases l with
  | nil => rfl
  | cons k l =>
    show _ = false
    rw [← Bool.not_eq_true]; intro e; have := (sameH_iff.1 e).2; simp [holdG] at this
def gos : List Nat → List Value
  | [] => []
  | k :: l => [.int .u32 (11 + (k : Int)), .int .u32 1] ++ gos l
theorem gos_append (a b : List Nat) : gos (a ++ b) = gos a ++ gos b := by
  induction a with
  | nil => rfl
  | cons x a ih => simp only [List.cons_append, gos, ih, List.append_assoc]
theorem gos_one (k : Nat) : gos [k] = [.int .u32 (11 + (k : Int)), .int .u32 1] := by simp [gos]
theorem gos_drop (k : Nat) (l : List Nat) : (gos (k :: l)).drop 2 = gos l := rfl
theorem gos_at : ∀ {l : List Nat} {i k : Nat}, l[i]? = some k → (gos l)[i * 2]? = some (.int .u32 (11 + (k : Int))) ∧ (gos l)[i * 2 + 1]? = some (.int .u32 1)
  | [], i, x, h => by simp at h
  | y :: l, 0, x, h => by simp at h; subst h; exact ⟨rfl, rfl⟩
  | y :: l, i + 1, x, h => by
    obtain ⟨h1, h2⟩ := gos_at (l := l) (i := i) (k := x) (by simpa using h)
    have e1 : (i + 1) * 2 = i * 2 + 2 := by omega
    rw [e1]
    exact ⟨h1, h2⟩
def upd3 {α : Type} (l : Nat → α) (h : Nat) (x : α) : Nat → α := fun k => if k = h then x else l k
theorem upd3_same {α : Type} (l : Nat → α) (h : Nat) (x : α) : upd3 l h x h = x := if_pos rfl
theorem upd3_ne {α : Type} (l : Nat → α) {h k : Nat} (x : α) (e : k ≠ h) : upd3 l h x k = l k := if_neg e
/-- the lines: an array of line3 slices -/
structure Lines (w0 w : World) (lb : Nat) (l : Nat → List Nat) (v : Nat → Value) : Prop where
  arr : Row w lb 31 [v 0, v 1, v 2]
  own : ∀ h, h < 3 → Tail w w0.heap.size 35 2 (v h) (l h).length (gos (l h))
  ap : ∀ h k q, h < 3 → k < 3 → h ≠ k → (v h).ownBlock = some q → (v k).ownBlock ≠ some q
  lo : w0.heap.size ≤ lb
theorem line3 {P : Nat → Prop} {h : Nat} (hh : h < 3) (h0 : P 0) (h1 : P 1) (h2 : P 2) : P h := by
  rcases (show h = 0 ∨ h = 1 ∨ h = 2 by omega) with rfl | rfl | rfl <;> assumption
section
variable {w0 w w' : World} {lb : Nat} {l : Nat → List Nat} {v : Nat → Value}
theorem Lines.cell (hL : Lines w0 w lb l v) {h : Nat} (hh : h < 3) : w.cell? ⟨lb, h, none⟩ = some (v h) :=
  line3 (P := fun h => w.cell? ⟨lb, h, none⟩ = some (v h)) hh (hL.arr.cell 0) (hL.arr.cell 1) (hL.arr.cell 2)
theorem Lines.frozen (hL : Lines w0 w lb l v) (h : Nat) : w.frozen? ⟨lb, h, none⟩ = false := hL.arr.frozen h
theorem Lines.form (hL : Lines w0 w lb l v) {h : Nat} (hh : h < 3) : ∃ A c, v h = .slice A (l h).length c ∧ ∀ (i k : Nat), (l h)[i]? = some k → ∃ g off, A = some ⟨g, off, none⟩ ∧ w.cell? ⟨g, off + i * 2, none⟩ = some (.int .u32 (11 + (k : Int))) ∧ w.cell? ⟨g, off + i * 2 + 1, none⟩ = some (.int .u32 1) := by
  obtain ⟨A, c, e, hc⟩ := (hL.own h hh).form
  refine ⟨A, c, e, fun i k hk => ?_⟩
  obtain ⟨g, off, hA, h1⟩ := hc _ _ (gos_at hk).1
  obtain ⟨g2, off2, hA2, h2⟩ := hc _ _ (gos_at hk).2
  rw [hA] at hA2
  injection hA2 with e2
  injection e2 with e2 e3 _
  subst e2 e3
  exact ⟨g, off, hA, h1, h2⟩
theorem Lines.move (hL : Lines w0 w lb l v) (hb : ∀ q, (q = lb ∨ ∃ h, h < 3 ∧ (v h).ownBlock = some q) → w'.heap[q]? = w.heap[q]?) : Lines w0 w' lb l v :=
  ⟨(hb lb (.inl rfl)).trans hL.arr, fun h hh => (hL.own h hh).move fun g hg => hb g (.inr ⟨h, hh, hg⟩), hL.ap, hL.lo⟩
theorem Lines.lt (hL : Lines w0 w lb l v) {q : Nat} (hq : q = lb ∨ ∃ h, h < 3 ∧ (v h).ownBlock = some q) : q < w.heap.size := by
  rcases hq with rfl | ⟨h, hh, hg⟩
  · exact hL.arr.lt
  · exact ((hL.own h hh).lt q hg).2
theorem Lines.ge (hL : Lines w0 w lb l v) {q : Nat} (hq : q = lb ∨ ∃ h, h < 3 ∧ (v h).ownBlock = some q) : w0.heap.size ≤ q := by
  rcases hq with rfl | ⟨h, hh, hg⟩
  · exact hL.lo
  · exact ((hL.own h hh).lt q hg).1
theorem Lines.below (hL : Lines w0 w lb l v) (hb : Below w.heap.size w w') : Lines w0 w' lb l v := hL.move fun q hq => hb.block q (hL.lt hq)
/-- a block of the lines holds what no other structure's block holds -/
theorem Lines.row (hL : Lines w0 w lb l v) {q : Nat} (hq : q = lb ∨ ∃ h, h < 3 ∧ (v h).ownBlock = some q) : ∃ e cs, Row w q e cs ∧ (e = 31 ∨ e = 35) := by
  rcases hq with rfl | ⟨h, hh, hg⟩
  · exact ⟨_, _, hL.arr, .inl rfl⟩
  · obtain ⟨cs, hr⟩ := (hL.own h hh).row hg
    exact ⟨_, _, hr, .inr rfl⟩
theorem Lines.set (hL : Lines w0 w lb l v) {h : Nat} (hh : h < 3) {x : Value} {m : List Nat} (hT : Tail w w0.heap.size 35 2 x m.length (gos m)) (hx : ∀ k q, k < 3 → k ≠ h → x.ownBlock = some q → (v k).ownBlock ≠ some q) :
    Lines w0 (w.setCell ⟨lb, h, none⟩ x) lb (upd3 l h m) (upd3 v h x) := by
  have hlb : ∀ q, (∃ cs, Row w q 35 cs) → q ≠ lb := by rintro q ⟨cs, hr⟩; exact hr.ne hL.arr (by decide)
  refine ⟨?_, fun k hk => ?_, fun a b q ha hb hab hq => ?_, hL.lo⟩
  · have h1 := hL.arr.set h x
    have : [v 0, v 1, v 2].set h x = [upd3 v h x 0, upd3 v h x 1, upd3 v h x 2] := line3 (P := fun h => [v 0, v 1, v 2].set h x = [upd3 v h x 0, upd3 v h x 1, upd3 v h x 2]) hh rfl rfl rfl
    rw [this] at h1
    exact h1
  · by_cases e : k = h
    · subst e
      rw [upd3_same, upd3_same]
      exact hT.move fun g hg => Below.heap_setCell w ⟨lb, k, none⟩ x g (hlb g (hT.row hg))
    · rw [upd3_ne _ _ e, upd3_ne _ _ e]
      exact (hL.own k hk).move fun g hg => Below.heap_setCell w ⟨lb, h, none⟩ x g (hlb g ((hL.own k hk).row hg))
  · by_cases ea : a = h
    · subst ea
      rw [upd3_same] at hq
      rw [upd3_ne _ _ (fun e => hab e.symm)]
      exact hx b q hb (fun e => hab e.symm) hq
    · rw [upd3_ne _ _ ea] at hq
      by_cases eb : b = h
      · subst eb
        rw [upd3_same]
        exact fun e => hx a q ha ea e hq
      · rw [upd3_ne _ _ eb]
        exact hL.ap a b q ha hb hab hq
/-- one more stands in a line -/
theorem Lines.put (hL : Lines w0 w lb l v) {h : Nat} (hh : h < 3) {x : Value} {k : Nat} (hT : Tail w' w0.heap.size 35 2 x ((l h).length + 1) (gos (l h) ++ [.int .u32 (11 + (k : Int)), .int .u32 1])) (hg : w.grownBy w' (v h).ownBlock) (hat : x.ownBlock = (v h).ownBlock ∨ ∃ q, x.ownBlock = some q ∧ w.heap.size ≤ q) :
    Lines w0 (w'.setCell ⟨lb, h, none⟩ x) lb (upd3 l h (l h ++ [k])) (upd3 v h x) := by
  have hmove : ∀ q, (q = lb ∨ ∃ k, k < 3 ∧ k ≠ h ∧ (v k).ownBlock = some q) → w'.heap[q]? = w.heap[q]? := by
    intro q hq
    refine hg.block q (hL.lt (hq.imp id fun ⟨k, a, _, c⟩ => ⟨k, a, c⟩)) fun e => ?_
    rcases hq with rfl | ⟨k, hk, hkh, hv⟩
    · obtain ⟨cs, hr⟩ := (hL.own h hh).row e.symm
      exact hr.ne hL.arr (by decide) rfl
    · exact hL.ap h k q hh hk (fun e => hkh e.symm) e.symm hv
  have hlb : ∀ q, (∃ cs, Row w' q 35 cs) → q ≠ lb := by rintro q ⟨cs, hr⟩; exact hr.ne ((hmove lb (.inl rfl)).trans hL.arr : Row w' lb _ _) (by decide)
  have hdis : ∀ k q, k < 3 → k ≠ h → x.ownBlock = some q → (v k).ownBlock ≠ some q := fun k q hk hkh hq e => by
    rcases hat with h1 | ⟨q2, h1, h2⟩
    · rw [h1] at hq; exact hL.ap h k q hh hk (fun e => hkh e.symm) hq e
    · rw [h1] at hq; cases hq
      have := ((hL.own k hk).lt _ e).2; omega
  refine ⟨?_, fun k2 hk => ?_, fun a b q ha hb hab hq => ?_, hL.lo⟩
  · have h1 := Row.set ((hmove lb (.inl rfl)).trans hL.arr : Row w' lb _ _) h x
    have : [v 0, v 1, v 2].set h x = [upd3 v h x 0, upd3 v h x 1, upd3 v h x 2] := line3 (P := fun h => [v 0, v 1, v 2].set h x = [upd3 v h x 0, upd3 v h x 1, upd3 v h x 2]) hh rfl rfl rfl
    rw [this] at h1
    exact h1
  · by_cases e : k2 = h
    · subst e
      rw [upd3_same, upd3_same, gos_append, gos_one, List.length_append]
      exact hT.move fun g hg => Below.heap_setCell w' ⟨lb, k2, none⟩ x g (hlb g (hT.row hg))
    · rw [upd3_ne _ _ e, upd3_ne _ _ e]
      have h1 : Tail w' w0.heap.size 35 2 (v k2) (l k2).length (gos (l k2)) := (hL.own k2 hk).move fun g hg => hmove g (.inr ⟨k2, hk, e, hg⟩)
      exact h1.move fun g hg => Below.heap_setCell w' ⟨lb, h, none⟩ x g (hlb g (h1.row hg))
  · by_cases ea : a = h
    · subst ea
      rw [upd3_same] at hq
      rw [upd3_ne _ _ (fun e => hab e.symm)]
      exact hdis b q hb (fun e => hab e.symm) hq
    · rw [upd3_ne _ _ ea] at hq
      by_cases eb : b = h
      · subst eb
        rw [upd3_same]
        exact fun e => hdis a q ha ea e hq
      · rw [upd3_ne _ _ eb]
        exact hL.ap a b q ha hb hab hq
end
end Go.Proofs.Ytkdiibgjkipdnaa
