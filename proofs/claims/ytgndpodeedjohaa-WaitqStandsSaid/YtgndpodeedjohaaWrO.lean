/-
  A script, opened.
-/
import Derived.Test.YtgndpodeedjohaaWrA
import Derived.Deep.Slices
import Derived.SizedLaws
import Derived.Laws.Cover2
import Derived.ProofKit
import Derived.Lib.SmallJoins
namespace Go.Proofs.Ytgndpodeedjohaa
open Go.RowKit Go.ChangeShapes Go.WideShapes Go.Deep
set_option linter.unusedSimpArgs false

structure Opn where
  kind : Int
  which : Int
  arm : Int
  os : Int
  og : Int
  sd : Int
  hs : Int
  hg : Int
  ms : Int
  mg : Int
  hand : Bool
  vn : Int
  vs : Int
  vg : Int
instance : Inhabited Opn := ⟨⟨0, 0, 0, 0, 0, 0, 0, 0, 0, 0, false, 0, 0, 0⟩⟩
def Opn.cells (o : Opn) : List Value := [.int .i64 o.kind, .int .i64 o.which, .int .i64 o.arm, .int .u32 o.os, .int .u32 o.og, .int .i64 o.sd, .int .u32 o.hs, .int .u32 o.hg, .int .u32 o.ms, .int .u32 o.mg, .bool o.hand, .int .i64 o.vn, .int .u32 o.vs, .int .u32 o.vg]
structure Opn.Ok (o : Opn) : Prop where
  kind : (Lit.int .i64 o.kind).wf = true
  which : (Lit.int .i64 o.which).wf = true
  arm : (Lit.int .i64 o.arm).wf = true
  os : (Lit.int .u32 o.os).wf = true
  og : (Lit.int .u32 o.og).wf = true
  sd : (Lit.int .i64 o.sd).wf = true
  hs : (Lit.int .u32 o.hs).wf = true
  hg : (Lit.int .u32 o.hg).wf = true
  ms : (Lit.int .u32 o.ms).wf = true
  mg : (Lit.int .u32 o.mg).wf = true
  vn : (Lit.int .i64 o.vn).wf = true
  vs : (Lit.int .u32 o.vs).wf = true
  vg : (Lit.int .u32 o.vg).wf = true
/-- a script in memory -/
structure Script (w : World) (A : Option Addr) (n : Nat) (os : List Opn) : Prop where
  len : os.length = n
  at_ : ∀ i o, os[i]? = some o → ∃ ad, A = some ad ∧ ∀ k u, o.cells[k]? = some u → w.cell? (ad.add (i * 14 + k)) = some u
  ok : ∀ o ∈ os, o.Ok
theorem Script.below {w w' : World} {A : Option Addr} {n : Nat} {os : List Opn} (h : Script w A n os) (hb : Below w.heap.size w w') : Script w' A n os :=
  ⟨h.len, fun i o hi => by
    obtain ⟨ad, e, hc⟩ := h.at_ i o hi
    exact ⟨ad, e, fun k u hu => by rw [hb.cell (cell_lt (hc k u hu))]; exact hc k u hu⟩, h.ok⟩
section
variable {H : Type} {enc : TypeId × Value → H} {W : World} {base : Nat} {spare : Nat → Bool} {held : Bool}
set_option maxRecDepth 100000
theorem handle_inner {n : Nat} {cs : List Value} {d : DataW H} {ps : List MemPlace} (h : DataW.trod enc Try.prog W base spare held n 41 cs = some (d, ps)) : ∃ a b : Int, cs = [.int .u32 a, .int .u32 b] ∧ (Lit.int .u32 a).wf = true ∧ (Lit.int .u32 b).wf = true := by
  obtain ⟨xs, m, _, hx, hlen, hxl, hf⟩ := DataW.trod_struct Try.underlying41 h
  rw [show Try.prog.cellsOf 41 = 2 by kernel_rfl] at hlen
  match cs, hlen with
  | [v0, v1], _ =>
    have f0 : DataW.trod enc Try.prog W base spare held m 39 (List.take (Try.prog.cellsOf 39) (List.drop 0 [v0, v1])) = xs[0]? := hf 0 _ rfl
    have f1 : DataW.trod enc Try.prog W base spare held m 39 (List.take (Try.prog.cellsOf 39) (List.drop 1 [v0, v1])) = xs[1]? := hf 1 _ rfl
    rw [show Try.prog.cellsOf 39 = 1 by kernel_rfl] at f0 f1
    match xs, hxl with
    | [y0, y1], _ =>
      obtain ⟨n0, e0, _, q0⟩ := DataW.trod_int Try.underlying39 f0
      obtain ⟨n1, e1, _, q1⟩ := DataW.trod_int Try.underlying39 f1
      cases e0; cases e1
      exact ⟨n0, n1, rfl, q0, q1⟩
theorem rowT_inner {n : Nat} {cs : List Value} {d : DataW H} {ps : List MemPlace} (h : DataW.trod enc Try.prog W base spare held n 44 cs = some (d, ps)) : ∃ a b c : Int, cs = [.int .u32 a, .int .u32 b, .int .i64 c] ∧ (Lit.int .u32 a).wf = true ∧ (Lit.int .u32 b).wf = true ∧ (Lit.int .i64 c).wf = true := by
  obtain ⟨xs, m, _, hx, hlen, hxl, hf⟩ := DataW.trod_struct Try.underlying44 h
  rw [show Try.prog.cellsOf 44 = 3 by kernel_rfl] at hlen
  match cs, hlen with
  | [v0, v1, v2], _ =>
    have f0 : DataW.trod enc Try.prog W base spare held m 41 (List.take (Try.prog.cellsOf 41) (List.drop 0 [v0, v1, v2])) = xs[0]? := hf 0 _ rfl
    have f1 : DataW.trod enc Try.prog W base spare held m 42 (List.take (Try.prog.cellsOf 42) (List.drop 2 [v0, v1, v2])) = xs[1]? := hf 1 _ rfl
    rw [show Try.prog.cellsOf 41 = 2 by kernel_rfl] at f0
    rw [show Try.prog.cellsOf 42 = 1 by kernel_rfl] at f1
    match xs, hxl with
    | [y0, y1], _ =>
      obtain ⟨a, b, e0, q0, q1⟩ := handle_inner f0
      obtain ⟨c, e1, _, q2⟩ := DataW.trod_int Try.underlying42 f1
      simp at e0
      obtain ⟨rfl, rfl⟩ := e0
      cases e1
      exact ⟨a, b, c, rfl, q0, q1, q2⟩
theorem valueT_inner {n : Nat} {cs : List Value} {d : DataW H} {ps : List MemPlace} (h : DataW.trod enc Try.prog W base spare held n 46 cs = some (d, ps)) : ∃ a b c : Int, cs = [.int .i64 a, .int .u32 b, .int .u32 c] ∧ (Lit.int .i64 a).wf = true ∧ (Lit.int .u32 b).wf = true ∧ (Lit.int .u32 c).wf = true := by
  obtain ⟨xs, m, _, hx, hlen, hxl, hf⟩ := DataW.trod_struct Try.underlying46 h
  rw [show Try.prog.cellsOf 46 = 3 by kernel_rfl] at hlen
  match cs, hlen with
  | [v0, v1, v2], _ =>
    have f0 : DataW.trod enc Try.prog W base spare held m 2 (List.take (Try.prog.cellsOf 2) (List.drop 0 [v0, v1, v2])) = xs[0]? := hf 0 _ rfl
    have f1 : DataW.trod enc Try.prog W base spare held m 41 (List.take (Try.prog.cellsOf 41) (List.drop 1 [v0, v1, v2])) = xs[1]? := hf 1 _ rfl
    rw [show Try.prog.cellsOf 41 = 2 by kernel_rfl] at f1
    rw [show Try.prog.cellsOf 2 = 1 by kernel_rfl] at f0
    match xs, hxl with
    | [y0, y1], _ =>
      obtain ⟨a, e0, _, q0⟩ := DataW.trod_int Try.underlying2 f0
      obtain ⟨b, c, e1, q1, q2⟩ := handle_inner f1
      simp at e1
      obtain ⟨rfl, rfl⟩ := e1
      cases e0
      exact ⟨a, b, c, rfl, q0, q1, q2⟩
theorem op_inner {n : Nat} {cs : List Value} {d : DataW H} {ps : List MemPlace} (h : DataW.trod enc Try.prog W base spare held n 48 cs = some (d, ps)) : ∃ o : Opn, cs = o.cells ∧ o.Ok := by
  obtain ⟨xs, m, _, hx, hlen, hxl, hf⟩ := DataW.trod_struct Try.underlying48 h
  rw [show Try.prog.cellsOf 48 = 14 by kernel_rfl] at hlen
  match cs, hlen with
  | [v0, v1, v2, v3, v4, v5, v6, v7, v8, v9, v10, v11, v12, v13], _ =>
    have f0 : DataW.trod enc Try.prog W base spare held m 3 (List.take (Try.prog.cellsOf 3) (List.drop 0 [v0, v1, v2, v3, v4, v5, v6, v7, v8, v9, v10, v11, v12, v13])) = xs[0]? := hf 0 _ rfl
    have f1 : DataW.trod enc Try.prog W base spare held m 3 (List.take (Try.prog.cellsOf 3) (List.drop 1 [v0, v1, v2, v3, v4, v5, v6, v7, v8, v9, v10, v11, v12, v13])) = xs[1]? := hf 1 _ rfl
    have f2 : DataW.trod enc Try.prog W base spare held m 3 (List.take (Try.prog.cellsOf 3) (List.drop 2 [v0, v1, v2, v3, v4, v5, v6, v7, v8, v9, v10, v11, v12, v13])) = xs[2]? := hf 2 _ rfl
    have f3 : DataW.trod enc Try.prog W base spare held m 44 (List.take (Try.prog.cellsOf 44) (List.drop 3 [v0, v1, v2, v3, v4, v5, v6, v7, v8, v9, v10, v11, v12, v13])) = xs[3]? := hf 3 _ rfl
    have f4 : DataW.trod enc Try.prog W base spare held m 41 (List.take (Try.prog.cellsOf 41) (List.drop 6 [v0, v1, v2, v3, v4, v5, v6, v7, v8, v9, v10, v11, v12, v13])) = xs[4]? := hf 4 _ rfl
    have f5 : DataW.trod enc Try.prog W base spare held m 41 (List.take (Try.prog.cellsOf 41) (List.drop 8 [v0, v1, v2, v3, v4, v5, v6, v7, v8, v9, v10, v11, v12, v13])) = xs[5]? := hf 5 _ rfl
    have f6 : DataW.trod enc Try.prog W base spare held m 4 (List.take (Try.prog.cellsOf 4) (List.drop 10 [v0, v1, v2, v3, v4, v5, v6, v7, v8, v9, v10, v11, v12, v13])) = xs[6]? := hf 6 _ rfl
    have f7 : DataW.trod enc Try.prog W base spare held m 46 (List.take (Try.prog.cellsOf 46) (List.drop 11 [v0, v1, v2, v3, v4, v5, v6, v7, v8, v9, v10, v11, v12, v13])) = xs[7]? := hf 7 _ rfl
    rw [show Try.prog.cellsOf 3 = 1 by kernel_rfl] at f0 f1 f2
    rw [show Try.prog.cellsOf 44 = 3 by kernel_rfl] at f3
    rw [show Try.prog.cellsOf 41 = 2 by kernel_rfl] at f4 f5
    rw [show Try.prog.cellsOf 4 = 1 by kernel_rfl] at f6
    rw [show Try.prog.cellsOf 46 = 3 by kernel_rfl] at f7
    match xs, hxl with
    | [y0, y1, y2, y3, y4, y5, y6, y7], _ =>
      obtain ⟨kind, e0, _, q0⟩ := DataW.trod_int Try.underlying3 f0
      obtain ⟨which, e1, _, q1⟩ := DataW.trod_int Try.underlying3 f1
      obtain ⟨arm, e2, _, q2⟩ := DataW.trod_int Try.underlying3 f2
      obtain ⟨os, og, sd, e3, q3, q4, q5⟩ := rowT_inner f3
      obtain ⟨hs, hg, e4, q6, q7⟩ := handle_inner f4
      obtain ⟨ms, mg, e5, q8, q9⟩ := handle_inner f5
      obtain ⟨hand, e6, _⟩ := DataW.trod_bool Try.underlying4 f6
      obtain ⟨vn, vs, vg, e7, q10, q11, q12⟩ := valueT_inner f7
      simp at e0 e1 e2 e3 e4 e5 e6 e7
      obtain ⟨rfl, rfl, rfl⟩ := e3
      obtain ⟨rfl, rfl⟩ := e4
      obtain ⟨rfl, rfl⟩ := e5
      obtain ⟨rfl, rfl, rfl⟩ := e7
      subst e0; subst e1; subst e2; subst e6
      exact ⟨⟨kind, which, arm, os, og, sd, hs, hg, ms, mg, hand, vn, vs, vg⟩, rfl, ⟨q0, q1, q2, q3, q4, q5, q6, q7, q8, q9, q10, q11, q12⟩⟩
theorem addr_add (a : Addr) (i j : Nat) : (a.add i).add j = a.add (i + j) := by
  unfold Addr.add
  by_cases h1 : i = 0 <;> by_cases h2 : j = 0 <;> simp [h1, h2, Nat.add_assoc]
theorem choose_lt' {α : Type} [Inhabited α] {n : Nat} {p : Nat → α → Prop} (h : ∀ i, i < n → ∃ x, p i x) : ∃ f : Nat → α, ∀ i, i < n → p i (f i) := by
  classical
  refine ⟨fun i => if hi : i < n then (h i hi).choose else default, fun i hi => ?_⟩
  simp only [hi, dif_pos]
  exact (h i hi).choose_spec
theorem script_open {a : Option Addr} {len cap : Nat} {d : DataW H} {ps : List MemPlace}
    (h : DataW.Trod enc Try.prog W base spare held 22 (.slice a len cap) d ps) : ∃ os : List Opn, Script W a len os := by
  obtain ⟨fuel, hf⟩ := h
  rcases open_slice Try.underlying22 hf with ⟨hcs, _⟩ | ⟨x, l, c, m, n, D, Pl, hcs, _, hlc, _, hm, hx, hi⟩
  · simp [Value.cells] at hcs
    obtain ⟨rfl, rfl, rfl⟩ := hcs
    exact ⟨[], rfl, fun i o h0 => by simp at h0, fun o h0 => by cases h0⟩
  · simp [Value.cells] at hcs
    obtain ⟨rfl, rfl, rfl⟩ := hcs
    obtain ⟨hx, _⟩ := Prod.mk.inj hx
    subst hx
    have hlm : len ≤ m := by rw [hm]; split <;> omega
    have hV : ∀ i, i < len → ∃ o : Opn, (∀ k u, o.cells[k]? = some u → W.cell? (x.add (i * 14 + k)) = some u) ∧ o.Ok := by
      intro i hil
      obtain ⟨cs, hc, hd⟩ := hi i (by omega)
      rw [show Try.prog.cellsOf 48 = 14 by kernel_rfl] at hc
      obtain ⟨_, _, hcell⟩ := World.cells?_some hc
      obtain ⟨o, hs, hz⟩ := op_inner hd
      subst hs
      refine ⟨o, fun k u hu => ?_, hz⟩
      have hk : k < 14 := (List.getElem?_eq_some_iff.1 hu).1
      have := hcell k hk
      rw [addr_add] at this
      rw [this]; exact hu
    obtain ⟨f, hf2⟩ := choose_lt' hV
    refine ⟨(List.range len).map f, by simp, fun i o ho => ⟨x, rfl, ?_⟩, fun o ho => ?_⟩
    · have hlt := (List.getElem?_eq_some_iff.1 ho).1
      simp at hlt
      rw [List.getElem?_map, List.getElem?_range hlt] at ho
      simp at ho
      subst ho
      exact (hf2 i hlt).1
    · obtain ⟨i, hi1, rfl⟩ := List.mem_map.1 ho
      exact (hf2 i (List.mem_range.1 hi1)).2
end
end Go.Proofs.Ytgndpodeedjohaa
