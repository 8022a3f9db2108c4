/-
  A script of counts, opened.
-/
import Derived.Test.YtkdiibgjkipdnaaLkI
import Derived.Deep.Slices
import Derived.SizedLaws
import Derived.Laws.Cover2
import Derived.ProofKit
import Derived.Lib.SmallJoins
namespace Go.Proofs.Ytkdiibgjkipdnaa
open Go.RowKit Go.ChangeShapes Go.WideShapes Go.Deep
set_option linter.unusedSimpArgs false

structure Cnt where
  wait : Bool
  g : Int
  n : Int
instance : Inhabited Cnt := ⟨⟨false, 0, 0⟩⟩
def Cnt.cells (o : Cnt) : List Value := [.bool o.wait, .int .i64 o.g, .int .i64 o.n]
structure Cnt.Ok (o : Cnt) : Prop where
  g : (Lit.int .i64 o.g).wf = true
  n : (Lit.int .i64 o.n).wf = true
/-- a script in memory -/
structure Counts (w : World) (A : Option Addr) (n : Nat) (os : List Cnt) : Prop where
  len : os.length = n
  at_ : ∀ i o, os[i]? = some o → ∃ ad, A = some ad ∧ ∀ k u, o.cells[k]? = some u → w.cell? (ad.add (i * 3 + k)) = some u
  ok : ∀ o ∈ os, o.Ok
section
variable {H : Type} {enc : TypeId × Value → H} {W : World} {base : Nat} {spare : Nat → Bool} {held : Bool}
set_option maxRecDepth 100000
theorem count_inner {n : Nat} {cs : List Value} {d : DataW H} {ps : List MemPlace} (h : DataW.trod enc Try.prog W base spare held n 64 cs = some (d, ps)) : ∃ o : Cnt, cs = o.cells ∧ o.Ok := by
  obtain ⟨xs, m, _, hx, hlen, hxl, hf⟩ := DataW.trod_struct Try.underlying64 h
  rw [show Try.prog.cellsOf 64 = 3 by kernel_rfl] at hlen
  match cs, hlen with
  | [v0, v1, v2], _ =>
    have f0 : DataW.trod enc Try.prog W base spare held m 4 (List.take (Try.prog.cellsOf 4) (List.drop 0 [v0, v1, v2])) = xs[0]? := hf 0 _ rfl
    have f1 : DataW.trod enc Try.prog W base spare held m 3 (List.take (Try.prog.cellsOf 3) (List.drop 1 [v0, v1, v2])) = xs[1]? := hf 1 _ rfl
    have f2 : DataW.trod enc Try.prog W base spare held m 2 (List.take (Try.prog.cellsOf 2) (List.drop 2 [v0, v1, v2])) = xs[2]? := hf 2 _ rfl
    rw [show Try.prog.cellsOf 3 = 1 by kernel_rfl] at f1
    rw [show Try.prog.cellsOf 4 = 1 by kernel_rfl] at f0
    rw [show Try.prog.cellsOf 2 = 1 by kernel_rfl] at f2
    match xs, hxl with
    | [y0, y1, y2], _ =>
      obtain ⟨wait, e0, _⟩ := DataW.trod_bool Try.underlying4 f0
      obtain ⟨g, e1, _, q1⟩ := DataW.trod_int Try.underlying3 f1
      obtain ⟨n, e2, _, q2⟩ := DataW.trod_int Try.underlying2 f2
      simp at e0 e1 e2
      subst e0; subst e1; subst e2
      exact ⟨⟨wait, g, n⟩, rfl, ⟨q1, q2⟩⟩
theorem addr_add (a : Addr) (i j : Nat) : (a.add i).add j = a.add (i + j) := by
  unfold Addr.add
  by_cases h1 : i = 0 <;> by_cases h2 : j = 0 <;> simp [h1, h2, Nat.add_assoc]
theorem choose_lt' {α : Type} [Inhabited α] {n : Nat} {p : Nat → α → Prop} (h : ∀ i, i < n → ∃ x, p i x) : ∃ f : Nat → α, ∀ i, i < n → p i (f i) := by
  classical
  refine ⟨fun i => if hi : i < n then (h i hi).choose else default, fun i hi => ?_⟩
  simp only [hi, dif_pos]
  exact (h i hi).choose_spec
theorem counts_open {a : Option Addr} {len cap : Nat} {d : DataW H} {ps : List MemPlace}
    (h : DataW.Trod enc Try.prog W base spare held 62 (.slice a len cap) d ps) : ∃ os : List Cnt, Counts W a len os := by
  obtain ⟨fuel, hf⟩ := h
  rcases open_slice Try.underlying62 hf with ⟨hcs, _⟩ | ⟨x, l, c, m, n, D, Pl, hcs, _, hlc, _, hm, hx, hi⟩
  · simp [Value.cells] at hcs
    obtain ⟨rfl, rfl, rfl⟩ := hcs
    exact ⟨[], rfl, fun i o h0 => by simp at h0, fun o h0 => by cases h0⟩
  · simp [Value.cells] at hcs
    obtain ⟨rfl, rfl, rfl⟩ := hcs
    obtain ⟨hx, _⟩ := Prod.mk.inj hx
    subst hx
    have hlm : len ≤ m := by rw [hm]; split <;> omega
    have hV : ∀ i, i < len → ∃ o : Cnt, (∀ k u, o.cells[k]? = some u → W.cell? (x.add (i * 3 + k)) = some u) ∧ o.Ok := by
      intro i hil
      obtain ⟨cs, hc, hd⟩ := hi i (by omega)
      rw [show Try.prog.cellsOf 64 = 3 by kernel_rfl] at hc
      obtain ⟨_, _, hcell⟩ := World.cells?_some hc
      obtain ⟨o, hs, hz⟩ := count_inner hd
      subst hs
      refine ⟨o, fun k u hu => ?_, hz⟩
      have hk : k < 3 := (List.getElem?_eq_some_iff.1 hu).1
      have := hcell k hk
      rw [addr_add] at this
      rw [this]; exact hu
    obtain ⟨f, hf2⟩ := choose_lt' hV
    refine ⟨(List.range len).map f, by simp, fun i o ho => ⟨x, rfl, ?_⟩, fun o ho => ?_⟩
    · have hlt := (List.getElem?_eq_some_iff.1 ho).1
      simp at hlt
      rw [List.getElem?_map, List.getElem?_range hlt] at ho
      simp at ho
      subst ho
      exact (hf2 i hlt).1
    · obtain ⟨i, hi1, rfl⟩ := List.mem_map.1 ho
      exact (hf2 i (List.mem_range.1 hi1)).2
end
end Go.Proofs.Ytkdiibgjkipdnaa
