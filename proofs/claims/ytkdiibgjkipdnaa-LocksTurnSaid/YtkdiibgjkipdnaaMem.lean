/-
  A block of memory of the call's own, known whole: what a store, a new block and a draw leave of it. No program here.
-/
import Derived.WalkKit
import Derived.Deep.Draws
import Derived.Lib.Hide
namespace Go.Proofs.Ytkdiibgjkipdnaa
open Go.RowKit

/-- the whole of block b: elements of type e -/
def Row (w : World) (b : Nat) (e : TypeId) (vs : List Value) : Prop := w.heap[b]? = some (.cells vs.toArray e (0, 0))
namespace Row
variable {w : World} {b : Nat} {e : TypeId} {vs : List Value}
theorem lt (h : Row w b e vs) : b < w.heap.size := (Array.getElem?_eq_some_iff.1 h).1
theorem cell (h : Row w b e vs) (j : Nat) : w.cell? ⟨b, j, none⟩ = vs[j]? := by
  unfold Row at h
  simp [World.cell?, h]
theorem frozen (h : Row w b e vs) (j : Nat) : w.frozen? ⟨b, j, none⟩ = false := by
  unfold Row at h
  simp [World.frozen?, h]
theorem set (h : Row w b e vs) (j : Nat) (v : Value) : Row (w.setCell ⟨b, j, none⟩ v) b e (vs.set j v) := by
  unfold Row at *
  simp [World.setCell, Array.getElem?_modify, h]
theorem far (h : Row w b e vs) {p : Addr} (hp : b ≠ p.block) (v : Value) : Row (w.setCell p v) b e vs := (Below.heap_setCell w p v b hp).trans h
theorem alloc (h : Row w b e vs) (o : Obj) : Row (w.alloc o) b e vs := by
  have hl := h.lt
  unfold Row at *
  show (w.heap.push o)[b]? = _
  rw [Array.getElem?_push, if_neg (by omega), h]
theorem new (w : World) (e : TypeId) (vs : List Value) : Row (w.alloc (.cells vs.toArray e)) w.heap.size e vs := by
  show (w.heap.push _)[w.heap.size]? = _
  rw [Array.getElem?_push, if_pos rfl]
theorem drewN (h : Row w b e vs) (n : Nat) : Row (w.drewN n) b e vs := h
theorem drew (h : Row w b e vs) : Row w.drew b e vs := h
theorem below {w1 : World} {B : Nat} (h : Row w b e vs) (hb : Below B w w1) (hB : b < B) : Row w1 b e vs := (hb.block b hB).trans h
theorem grown {w1 : World} (h : Row w b e vs) (hb : Below w.heap.size w w1) : Row w1 b e vs := (hb.block b h.lt).trans h
end Row

/-- a slice that reads as a list of floats -/
structure Fs (w : World) (A : Option Addr) (n : Nat) (xs : List Nat) : Prop where
  len : xs.length = n
  small : n ≤ 140737488355328
  bits : ∀ x ∈ xs, x < 18446744073709551616
  at_ : 0 < n → ∃ ad, A = some ad ∧ ∀ j, j < n → w.cell? (ad.add j) = some (.float .f64 (xs.getD j 0))
theorem Fs.word {w : World} {A : Option Addr} {n : Nat} {xs : List Nat} (h : Fs w A n xs) (k : Nat) : xs.getD k 0 < 18446744073709551616 := by
  rw [List.getD_eq_getElem?_getD]
  by_cases hk : k < xs.length
  · rw [List.getElem?_eq_getElem hk]
    exact h.bits _ (List.getElem_mem hk)
  · rw [List.getElem?_eq_none (by omega)]
    decide
theorem cell_lt {w : World} {a : Addr} {v : Value} (h : w.cell? a = some v) : a.block < w.heap.size := by
  unfold World.cell? at h
  rcases Nat.lt_or_ge a.block w.heap.size with h1 | h1
  · exact h1
  · rw [Array.getElem?_eq_none h1] at h
    cases h
theorem add_block (a : Addr) (j : Nat) : (a.add j).block = a.block := by
  unfold Addr.add; split <;> rfl
theorem Fs.below {w w1 : World} {A : Option Addr} {n : Nat} {xs : List Nat} (h : Fs w A n xs) (hb : Below w.heap.size w w1) : Fs w1 A n xs :=
  ⟨h.len, h.small, h.bits, fun hn => by
    obtain ⟨ad, e, hc⟩ := h.at_ hn
    refine ⟨ad, e, fun j hj => ?_⟩
    rw [hb.cell (p := ad.add j) (cell_lt (hc j hj))]
    exact hc j hj⟩
theorem Fs.below' {B : Nat} {w w1 : World} {A : Option Addr} {n : Nat} {xs : List Nat} (h : Fs w A n xs) (hb : Below B w w1) (hB : ∀ ad, A = some ad → ad.block < B) : Fs w1 A n xs :=
  ⟨h.len, h.small, h.bits, fun hn => by
    obtain ⟨ad, e, hc⟩ := h.at_ hn
    refine ⟨ad, e, fun j hj => ?_⟩
    rw [hb.cell (p := ad.add j) (by rw [add_block]; exact hB ad e)]
    exact hc j hj⟩
theorem Fs.block {w : World} {A : Option Addr} {n : Nat} {xs : List Nat} (h : Fs w A n xs) (hn : 0 < n) : ∃ ad, A = some ad ∧ ad.block < w.heap.size := by
  obtain ⟨ad, e, hc⟩ := h.at_ hn
  refine ⟨ad, e, ?_⟩
  have := cell_lt (hc 0 hn)
  rwa [add_block] at this

def flo (xs : List Nat) : List Value := xs.map (Value.float .f64)
theorem add_zero (b j : Nat) : (⟨b, 0, none⟩ : Addr).add j = ⟨b, j, none⟩ := by
  unfold Addr.add
  split
  · rename_i h; subst h; rfl
  · simp
theorem Fs.of_row {w : World} {b : Nat} {e : TypeId} {xs : List Nat} {rest : List Value} (h : Row w b e (flo xs ++ rest)) (hs : xs.length ≤ 140737488355328) (hb : ∀ x ∈ xs, x < 18446744073709551616) :
    Fs w (some ⟨b, 0, none⟩) xs.length xs :=
  ⟨rfl, hs, hb, fun _ => ⟨_, rfl, fun j hj => by
    rw [add_zero, h.cell, List.getElem?_append_left (by simpa [flo] using hj)]
    simp [flo, List.getElem?_eq_getElem hj, List.getD_eq_getElem?_getD]⟩⟩
end Go.Proofs.Ytkdiibgjkipdnaa
