/-
  An argument that is a script, opened.
-/
import Derived.Test.YtkoepaagdaconaaRgQ
import Derived.Test.YtkoepaagdaconaaRgL
namespace Go.Proofs.Ytkoepaagdaconaa
open Go.RowKit Go.ChangeShapes Go.WideShapes Go.Deep
set_option linter.unusedSimpArgs false

set_option maxRecDepth 100000 in
theorem op_inner {H : Type} {enc : TypeId × Value → H} {W : World} {base : Nat} {spare : Nat → Bool} {held : Bool} {n : Nat} {cs : List Value} {d : DataW H} {ps : List MemPlace}
    (h : DataW.trod enc Try.prog W base spare held n 42 cs = some (d, ps)) : ∃ p : Int × Int, cs = [.int .i64 p.1, .int .i64 p.2] := by
  obtain ⟨xs, m, _, hx, hlen, hxl, hf⟩ := DataW.trod_struct Try.underlying42 h
  rw [show Try.prog.cellsOf 42 = 2 by kernel_rfl] at hlen
  match cs, hlen with
  | [v0, v1], _ =>
    have f0 : DataW.trod enc Try.prog W base spare held m 3 (List.take (Try.prog.cellsOf 3) (List.drop 0 [v0, v1])) = xs[0]? := hf 0 _ rfl
    have f1 : DataW.trod enc Try.prog W base spare held m 3 (List.take (Try.prog.cellsOf 3) (List.drop 1 [v0, v1])) = xs[1]? := hf 1 _ rfl
    rw [show Try.prog.cellsOf 3 = 1 by kernel_rfl] at f0 f1
    match xs, hxl with
    | [y0, y1], _ =>
      obtain ⟨n0, e0, _⟩ := DataW.trod_int Try.underlying3 f0
      obtain ⟨n1, e1, _⟩ := DataW.trod_int Try.underlying3 f1
      cases e0; cases e1
      exact ⟨(n0, n1), rfl⟩

theorem choose_lt' {α : Type} [Inhabited α] {n : Nat} {p : Nat → α → Prop} (h : ∀ i, i < n → ∃ x, p i x) : ∃ f : Nat → α, ∀ i, i < n → p i (f i) := by
  classical
  refine ⟨fun i => if hi : i < n then (h i hi).choose else default, fun i hi => ?_⟩
  simp only [hi, dif_pos]
  exact (h i hi).choose_spec

theorem ops_open {H : Type} {enc : TypeId × Value → H} {W : World} {base : Nat} {spare : Nat → Bool} {held : Bool} {a : Option Addr} {len cap : Nat} {d : DataW H} {ps : List MemPlace}
    (h : DataW.Trod enc Try.prog W base spare held 34 (.slice a len cap) d ps) : ∃ os : List (Int × Int), Ops W a len os := by
  obtain ⟨fuel, hf⟩ := h
  rcases open_slice Try.underlying34 hf with ⟨hcs, _⟩ | ⟨x, l, c, m, n, D, Pl, hcs, _, hlc, _, hm, hx, hi⟩
  · simp [Value.cells] at hcs
    obtain ⟨rfl, rfl, rfl⟩ := hcs
    exact ⟨[], rfl, fun h0 => absurd h0 (Nat.lt_irrefl 0)⟩
  · simp [Value.cells] at hcs
    obtain ⟨rfl, rfl, rfl⟩ := hcs
    have hlm : len ≤ m := by rw [hm]; split <;> omega
    have hV : ∀ i, i < len → ∃ p : Int × Int, W.cell? (x.add (i * 2)) = some (.int .i64 p.1) ∧ W.cell? (x.add (i * 2 + 1)) = some (.int .i64 p.2) := by
      intro i hil
      obtain ⟨cs, hc, hd⟩ := hi i (by omega)
      rw [show Try.prog.cellsOf 42 = 2 by kernel_rfl] at hc
      obtain ⟨_, _, hcell⟩ := World.cells?_some hc
      obtain ⟨p, hp⟩ := op_inner hd
      subst hp
      refine ⟨p, ?_, ?_⟩
      · have := hcell 0 (by omega)
        rw [addr_add, Nat.add_zero] at this
        exact this
      · have := hcell 1 (by omega)
        rw [addr_add] at this
        exact this
    obtain ⟨f, hf2⟩ := choose_lt' hV
    refine ⟨(List.range len).map f, by simp, fun _ => ⟨x, rfl, fun j hj => ?_⟩⟩
    have hg : ((List.range len).map f)[j / 2]? = some (f (j / 2)) := by
      rw [List.getElem?_map, List.getElem?_range (by omega)]
      rfl
    have h1 := hf2 (j / 2) (by omega)
    have h2 := opCells_get _ (j / 2) _ hg
    rcases Nat.mod_two_eq_zero_or_one j with h0 | h0
    · have e : j / 2 * 2 = j := by omega
      rw [e] at h1 h2
      rw [h1.1, h2.1]
    · have e : j / 2 * 2 + 1 = j := by omega
      rw [e] at h1 h2
      rw [h1.2, h2.2]
end Go.Proofs.Ytkoepaagdaconaa
