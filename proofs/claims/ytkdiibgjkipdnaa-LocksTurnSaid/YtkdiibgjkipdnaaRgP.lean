/-
  A ring in memory: what a place holds, and what a put and a take make of it. No program.
-/
import Derived.Test.YtkdiibgjkipdnaaMem
namespace Go.Proofs.Ytkdiibgjkipdnaa
open Go.RowKit
set_option linter.unusedSimpArgs false

namespace Row
variable {w w' : World} {b : Nat} {e : TypeId} {vs : List Value}
theorem ne {b' : Nat} {e' : TypeId} {vs' : List Value} (h : Row w b e vs) (h' : Row w b' e' vs') (he : e ≠ e') : b ≠ b' := by
  rintro rfl
  unfold Row at h h'
  rw [h] at h'
  injection h' with h'
  injection h' with _ ht
  exact he ht
end Row

/-- all blocks but those of S are as they were -/
structure But (S : Nat → Prop) (w w' : World) : Prop where
  os : w'.os = w.os
  tape : w'.tape = w.tape
  output : w'.output = w.output
  size : w.heap.size ≤ w'.heap.size
  block : ∀ k, k < w.heap.size → ¬ S k → w'.heap[k]? = w.heap[k]?
namespace But
variable {S S' : Nat → Prop} {a b c w w' : World}
theorem refl (S : Nat → Prop) (w : World) : But S w w := ⟨rfl, rfl, rfl, Nat.le_refl _, fun _ _ _ => rfl⟩
theorem trans (h : But S a b) (k : But S b c) : But S a c :=
  ⟨k.os.trans h.os, k.tape.trans h.tape, k.output.trans h.output, Nat.le_trans h.size k.size, fun i hi hs => (k.block i (Nat.lt_of_lt_of_le hi h.size) hs).trans (h.block i hi hs)⟩
theorem weaken (h : But S w w') (hs : ∀ k, S k → S' k) : But S' w w' := ⟨h.os, h.tape, h.output, h.size, fun i hi hn => h.block i hi (fun k => hn (hs i k))⟩
theorem set (h : But S w w') (p : Addr) (v : Value) (hp : S p.block) : But S w (w'.setCell p v) :=
  ⟨h.os, h.tape, h.output, by simp only [World.setCell, Array.size_modify]; exact h.size, fun i hi hs => (Below.heap_setCell w' p v i (fun e => hs (e ▸ hp))).trans (h.block i hi hs)⟩
theorem setNew (h : But S w w') (p : Addr) (v : Value) (hp : w.heap.size ≤ p.block) : But S w (w'.setCell p v) :=
  ⟨h.os, h.tape, h.output, by simp only [World.setCell, Array.size_modify]; exact h.size, fun i hi hs => (Below.heap_setCell w' p v i (by omega)).trans (h.block i hi hs)⟩
theorem alloc (h : But S w w') (o : Obj) : But S w (w'.alloc o) :=
  ⟨h.os, h.tape, h.output, by show _ ≤ (w'.heap.push o).size; rw [Array.size_push]; have := h.size; omega, fun i hi hs => (by
    have := h.size
    show (w'.heap.push o)[i]? = _
    rw [Array.getElem?_push, if_neg (by omega)]
    exact h.block i hi hs)⟩
theorem drewN (h : But S w w') (n : Nat) : But S w (w'.drewN n) := ⟨h.os, h.tape, h.output, h.size, h.block⟩
theorem of_below (h : Below w.heap.size w w') (S : Nat → Prop) : But S w w' := ⟨h.os, h.tape, h.output, h.size, fun i hi _ => h.block i hi⟩
theorem below {B : Nat} (h : Below B a w) (k : But S w w') (hB : B ≤ w.heap.size) (hs : ∀ i, S i → B ≤ i) : Below B a w' :=
  ⟨k.os.trans h.os, k.tape.trans h.tape, k.output.trans h.output, Nat.le_trans h.size k.size, fun i hi => (k.block i (by omega) (fun e => by have := hs i e; omega)).trans (h.block i hi)⟩
theorem row {x e : Nat} {vs : List Value} (h : But S w w') (hr : Row w x e vs) (hx : ¬ S x) : Row w' x e vs := (h.block x hr.lt hx).trans hr
end But

theorem far_cell {w : World} {p q : Addr} {v : Value} (h : q.block ≠ p.block) (m : Nat) : ((w.drewN m).setCell p v).cell? q = w.cell? q := (World.cell?_of_block (w := w.drewN m) (Below.heap_setCell _ p v _ h))
theorem below_drewN {B : Nat} {a w : World} (h : Below B a w) (n : Nat) : Below B a (w.drewN n) := ⟨h.os, h.tape, h.output, h.size, h.block⟩
theorem made_rep (z : Value) (n : Nat) : madeCells #[z] n = (List.replicate n z).toArray := by
  apply Array.ext_getElem?
  intro i
  unfold madeCells
  by_cases h : i < n
  · simp [h, Nat.mod_one]
  · simp [h]
theorem wrapn {a n : Nat} (h : a < 2 * n) : a % n = if a < n then a else a - n := by
  split
  · exact Nat.mod_eq_of_lt ‹_›
  · rw [Nat.mod_eq_sub_mod (by omega), Nat.mod_eq_of_lt (by omega)]

/-- a ring in memory: its object's block b (of type T), its room g (elements of type E) of n places; its first place; what all places hold; what is in it -/
structure RingAt (w : World) (T E b g n f : Nat) (vs q : List Value) : Prop where
  obj : Row w b T [.slice (some ⟨g, 0, none⟩) n n, .int .i64 f, .int .i64 (q.length : Nat)]
  room : Row w g E vs
  len : vs.length = n
  few : q.length ≤ n
  first : f < n ∨ f = 0 ∧ n = 0
  at_ : ∀ i, i < q.length → vs[(f + i) % n]? = q[i]?
  ne : b ≠ g
def Ring (w : World) (T E b g n : Nat) (q : List Value) : Prop := ∃ f vs, RingAt w T E b g n f vs q
section
variable {w w' : World} {T E b g n f : Nat} {vs q : List Value}
theorem RingAt.but {S : Nat → Prop} (h : RingAt w T E b g n f vs q) (hb : But S w w') (h1 : ¬ S b) (h2 : ¬ S g) : RingAt w' T E b g n f vs q :=
  ⟨hb.row h.obj h1, hb.row h.room h2, h.len, h.few, h.first, h.at_, h.ne⟩
theorem Ring.but {S : Nat → Prop} (h : Ring w T E b g n q) (hb : But S w w') (h1 : ¬ S b) (h2 : ¬ S g) : Ring w' T E b g n q := by
  obtain ⟨f, vs, h⟩ := h
  exact ⟨f, vs, h.but hb h1 h2⟩
theorem Ring.below (h : Ring w T E b g n q) (hb : Below w.heap.size w w') : Ring w' T E b g n q := h.but (But.of_below hb (fun _ => False)) (fun h => h) (fun h => h)
theorem Ring.few (h : Ring w T E b g n q) : q.length ≤ n := by
  obtain ⟨f, vs, h⟩ := h
  exact h.few
theorem Ring.drewN (h : Ring w T E b g n q) (k : Nat) : Ring (w.drewN k) T E b g n q := h.but ((But.refl (fun _ => False) w).drewN k) (fun h => h) (fun h => h)
/-- where the thing with i others ahead of it lies -/
theorem RingAt.place (_h : RingAt w T E b g n f vs q) {i : Nat} (hi : i < n) : (f + i) % n < n := Nat.mod_lt _ (by omega)
theorem RingAt.get (h : RingAt w T E b g n f vs q) {i : Nat} (hi : i < q.length) : w.cell? ⟨g, (f + i) % n, none⟩ = q[i]? := by rw [h.room.cell, h.at_ i hi]
theorem RingAt.put (h : RingAt w T E b g n f vs q) (hq : q.length < n) (x : Value) (hg : Row w' g E (vs.set ((f + q.length) % n) x)) (hb : Row w' b T [.slice (some ⟨g, 0, none⟩) n n, .int .i64 f, .int .i64 ((q.length : Int) + 1)]) :
    RingAt w' T E b g n f (vs.set ((f + q.length) % n) x) (q ++ [x]) := by
  have hf := h.first
  refine ⟨by simpa using hb, hg, by rw [List.length_set]; exact h.len, by simp; omega, h.first, fun i hi => ?_, h.ne⟩
  rw [List.length_append, List.length_singleton] at hi
  by_cases he : i = q.length
  · subst he
    rw [List.getElem?_set_self (by rw [h.len]; exact Nat.mod_lt _ (by omega)), List.getElem?_append_right (Nat.le_refl _), Nat.sub_self]; rfl
  · rw [List.getElem?_set_ne, h.at_ i (by omega), List.getElem?_append_left (by omega)]
    rw [wrapn (by omega), wrapn (by omega)]
    split <;> split <;> omega
theorem RingAt.take {x : Value} (h : RingAt w T E b g n f vs (x :: q)) (none_ : Value) (hg : Row w' g E (vs.set f none_)) (hb : Row w' b T [.slice (some ⟨g, 0, none⟩) n n, .int .i64 ((f + 1) % n : Nat), .int .i64 (q.length : Nat)]) :
    RingAt w' T E b g n ((f + 1) % n) (vs.set f none_) q := by
  have hf := h.first
  have hw := h.few
  rw [List.length_cons] at hw
  refine ⟨hb, hg, by rw [List.length_set]; exact h.len, by omega, .inl (Nat.mod_lt _ (by omega)), fun i hi => ?_, h.ne⟩
  have e : ((f + 1) % n + i) % n = (f + (i + 1)) % n := by
    rw [Nat.add_mod, Nat.mod_mod, ← Nat.add_mod]
    congr 1
    omega
  rw [e, List.getElem?_set_ne, h.at_ (i + 1) (by rw [List.length_cons]; omega)]
  · rfl
  · rw [wrapn (by omega)]
    split <;> omega
theorem RingAt.head {x : Value} (h : RingAt w T E b g n f vs (x :: q)) : w.cell? ⟨g, f, none⟩ = some x := by
  have := h.get (i := 0) (by simp)
  have hf := h.first
  have hw := h.few
  rw [List.length_cons] at hw
  rw [Nat.add_zero, Nat.mod_eq_of_lt (by omega)] at this
  exact this
theorem RingAt.new (hb : Row w b T [.slice (some ⟨g, 0, none⟩) n n, .int .i64 0, .int .i64 0]) (hg : Row w g E vs) (hl : vs.length = n) (hne : b ≠ g) : RingAt w T E b g n 0 vs [] :=
  ⟨by simpa using hb, hg, hl, by simp, by omega, fun i hi => by simp at hi, hne⟩
end
end Go.Proofs.Ytkdiibgjkipdnaa
