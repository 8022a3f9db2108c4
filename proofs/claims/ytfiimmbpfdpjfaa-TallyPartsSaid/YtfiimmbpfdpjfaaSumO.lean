/-
  An argument that is a slice of plain runs, opened.
-/
import Derived.Test.YtfiimmbpfdpjfaaSumP
import Derived.Test.YtfiimmbpfdpjfaaTalOpen
namespace Go.Proofs.Ytfiimmbpfdpjfaa
open Go.RowKit Go.ChangeShapes Go.WideShapes Go.Deep
set_option linter.unusedSimpArgs false

instance : Inhabited On := ⟨⟨ByteArray.empty, 0, false⟩⟩
/-- a slice of these in memory -/
structure Oss (w : World) (A : Option Addr) (n : Nat) (os : List On) : Prop where
  len : os.length = n
  at_ : ∀ i o, os[i]? = some o → ∃ ad, A = some ad ∧ w.cell? (ad.add (i * 3)) = some (.string o.fn) ∧ w.cell? (ad.add (i * 3 + 1)) = some (.int .i64 o.raw) ∧ w.cell? (ad.add (i * 3 + 2)) = some (.bool o.fin)
  okn : ∀ o ∈ os, -9223372036854775808 ≤ o.raw ∧ o.raw ≤ 9223372036854775807 ∧ o.fn.size ≤ maxLen
theorem Oss.below {w w' : World} {A : Option Addr} {n : Nat} {os : List On} (h : Oss w A n os) (hb : Below w.heap.size w w') : Oss w' A n os :=
  ⟨h.len, fun i o hi => by
    obtain ⟨ad, e, h0, h1, h2⟩ := h.at_ i o hi
    exact ⟨ad, e, by rw [hb.cell (cell_lt h0)]; exact h0, by rw [hb.cell (cell_lt h1)]; exact h1, by rw [hb.cell (cell_lt h2)]; exact h2⟩, h.okn⟩
set_option maxRecDepth 100000 in
/-- one of an argument -/
theorem one_inner {H : Type} {enc : TypeId × Value → H} {W : World} {base : Nat} {spare : Nat → Bool} {held : Bool} {n : Nat} {cs : List Value} {d : DataW H} {ps : List MemPlace}
    (h : DataW.trod enc Try.prog W base spare held n 36 cs = some (d, ps)) : ∃ o : On, cs = [.string o.fn, .int .i64 o.raw, .bool o.fin] ∧ -9223372036854775808 ≤ o.raw ∧ o.raw ≤ 9223372036854775807 ∧ o.fn.size ≤ maxLen := by
  obtain ⟨xs, m, _, hx, hlen, hxl, hf⟩ := DataW.trod_struct Try.underlying36 h
  rw [show Try.prog.cellsOf 36 = 3 by kernel_rfl] at hlen
  match cs, hlen with
  | [v0, v1, v2], _ =>
    have f0 : DataW.trod enc Try.prog W base spare held m 9 (List.take (Try.prog.cellsOf 9) (List.drop 0 [v0, v1, v2])) = xs[0]? := hf 0 _ rfl
    have f1 : DataW.trod enc Try.prog W base spare held m 3 (List.take (Try.prog.cellsOf 3) (List.drop 1 [v0, v1, v2])) = xs[1]? := hf 1 _ rfl
    have f2 : DataW.trod enc Try.prog W base spare held m 4 (List.take (Try.prog.cellsOf 4) (List.drop 2 [v0, v1, v2])) = xs[2]? := hf 2 _ rfl
    rw [show Try.prog.cellsOf 9 = 1 by kernel_rfl] at f0
    rw [show Try.prog.cellsOf 3 = 1 by kernel_rfl] at f1
    rw [show Try.prog.cellsOf 4 = 1 by kernel_rfl] at f2
    match xs, hxl with
    | [y0, y1, y2], _ =>
      obtain ⟨n0, e0, _, q0⟩ := DataW.trod_string Try.underlying9 f0
      obtain ⟨n1, e1, _, q1⟩ := DataW.trod_int Try.underlying3 f1
      obtain ⟨n2, e2, _⟩ := DataW.trod_bool Try.underlying4 f2
      cases e0; cases e1; cases e2
      simp only [Lit.wf, Bool.and_eq_true, decide_eq_true_eq] at q1
      exact ⟨⟨n0, n1, n2⟩, rfl, q1.1, q1.2, q0⟩
theorem ones_open {H : Type} {enc : TypeId × Value → H} {W : World} {base : Nat} {spare : Nat → Bool} {held : Bool} {t : TypeId} {a : Option Addr} {len cap : Nat} {d : DataW H} {ps : List MemPlace} {ts : List TypeId} {ds : List (DataW H)} {j : Nat}
    (hsz : (DataW.weightsEach Try.prog ts ds).all (· ≤ reachBytes) = true) (ht : ts[j]? = some t) (hd : ds[j]? = some d) (htt : t = 34)
    (h : DataW.Trod enc Try.prog W base spare held t (.slice a len cap) d ps) : ∃ os : List On, Oss W a len os ∧ len * 32 ≤ 140737488351232 := by
  subst htt
  have hL := light_arg hsz ht hd
  obtain ⟨fuel, hf⟩ := h
  rcases open_slice Try.underlying34 hf with ⟨hcs, _⟩ | ⟨x, l, c, m, n, D, Pl, hcs, _, hlc, _, hm, hx, hi⟩
  · simp [Value.cells] at hcs
    obtain ⟨rfl, rfl, rfl⟩ := hcs
    exact ⟨[], ⟨rfl, fun i o h => by simp at h, fun o h => by cases h⟩, by omega⟩
  · simp [Value.cells] at hcs
    obtain ⟨rfl, rfl, rfl⟩ := hcs
    obtain ⟨hx, _⟩ := Prod.mk.inj hx
    subst hx
    have z := hL.len Try.underlying34
    rw [show Try.prog.bytesOf 36 = 32 by kernel_rfl] at z
    simp only [List.length_map, List.length_range] at z
    have hz : len * 32 ≤ 140737488351232 := Nat.le_trans (Nat.mul_le_mul_right _ (by omega)) z
    have hlm : len ≤ m := by rw [hm]; split <;> omega
    have hV : ∀ i, i < len → ∃ o : On, (W.cell? (x.add (i * 3)) = some (.string o.fn) ∧ W.cell? (x.add (i * 3 + 1)) = some (.int .i64 o.raw) ∧ W.cell? (x.add (i * 3 + 2)) = some (.bool o.fin)) ∧ -9223372036854775808 ≤ o.raw ∧ o.raw ≤ 9223372036854775807 ∧ o.fn.size ≤ maxLen := by
      intro i hil
      obtain ⟨cs, hc, hd⟩ := hi i (by omega)
      rw [show Try.prog.cellsOf 36 = 3 by kernel_rfl] at hc
      obtain ⟨_, _, hcell⟩ := World.cells?_some hc
      obtain ⟨o, hs, hz⟩ := one_inner hd
      subst hs
      have key : ∀ q, q < 3 → W.cell? (x.add (i * 3 + q)) = ([.string o.fn, .int .i64 o.raw, .bool o.fin] : List Value)[q]? := fun q hq => by
        have := hcell q hq
        rw [addr_add] at this
        exact this
      exact ⟨o, ⟨key 0 (by decide), key 1 (by decide), key 2 (by decide)⟩, hz⟩
    obtain ⟨f, hf2⟩ := choose_lt hV
    refine ⟨(List.range len).map f, ⟨by simp, fun i o ho => ⟨x, rfl, ?_⟩, fun o ho => ?_⟩, hz⟩
    · have hlt := (List.getElem?_eq_some_iff.1 ho).1
      simp at hlt
      rw [List.getElem?_map, List.getElem?_range hlt] at ho
      simp at ho
      subst ho
      exact (hf2 i hlt).1
    · obtain ⟨i, hi, rfl⟩ := List.mem_map.1 ho
      exact (hf2 i (List.mem_range.1 hi)).2
end Go.Proofs.Ytfiimmbpfdpjfaa
