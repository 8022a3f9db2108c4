/-
  An argument that is a slice of goroutines, opened.
-/
import Derived.Test.YtfiimmbpfdpjfaaTalD
import Derived.Test.YtfiimmbpfdpjfaaLotOpen
namespace Go.Proofs.Ytfiimmbpfdpjfaa
open Go.RowKit Go.ChangeShapes Go.WideShapes Go.Deep
set_option linter.unusedSimpArgs false

instance : Inhabited St := ⟨⟨0, ByteArray.empty, 0, 0, 0, 0, false⟩⟩
set_option maxRecDepth 100000 in
/-- one goroutine of an argument -/
theorem stat_inner {H : Type} {enc : TypeId × Value → H} {W : World} {base : Nat} {spare : Nat → Bool} {held : Bool} {n : Nat} {cs : List Value} {d : DataW H} {ps : List MemPlace}
    (h : DataW.trod enc Try.prog W base spare held n 38 cs = some (d, ps)) : ∃ s : St, cs = s.cells ∧ s.fn.size ≤ maxLen := by
  obtain ⟨xs, m, _, hx, hlen, hxl, hf⟩ := DataW.trod_struct Try.underlying38 h
  rw [show Try.prog.cellsOf 38 = 7 by kernel_rfl] at hlen
  match cs, hlen with
  | [v0, v1, v2, v3, v4, v5, v6], _ =>
    have f0 : DataW.trod enc Try.prog W base spare held m 3 (List.take (Try.prog.cellsOf 3) (List.drop 0 [v0, v1, v2, v3, v4, v5, v6])) = xs[0]? := hf 0 _ rfl
    have f1 : DataW.trod enc Try.prog W base spare held m 9 (List.take (Try.prog.cellsOf 9) (List.drop 1 [v0, v1, v2, v3, v4, v5, v6])) = xs[1]? := hf 1 _ rfl
    have f2 : DataW.trod enc Try.prog W base spare held m 3 (List.take (Try.prog.cellsOf 3) (List.drop 2 [v0, v1, v2, v3, v4, v5, v6])) = xs[2]? := hf 2 _ rfl
    have f3 : DataW.trod enc Try.prog W base spare held m 3 (List.take (Try.prog.cellsOf 3) (List.drop 3 [v0, v1, v2, v3, v4, v5, v6])) = xs[3]? := hf 3 _ rfl
    have f4 : DataW.trod enc Try.prog W base spare held m 3 (List.take (Try.prog.cellsOf 3) (List.drop 4 [v0, v1, v2, v3, v4, v5, v6])) = xs[4]? := hf 4 _ rfl
    have f5 : DataW.trod enc Try.prog W base spare held m 3 (List.take (Try.prog.cellsOf 3) (List.drop 5 [v0, v1, v2, v3, v4, v5, v6])) = xs[5]? := hf 5 _ rfl
    have f6 : DataW.trod enc Try.prog W base spare held m 4 (List.take (Try.prog.cellsOf 4) (List.drop 6 [v0, v1, v2, v3, v4, v5, v6])) = xs[6]? := hf 6 _ rfl
    rw [show Try.prog.cellsOf 3 = 1 by kernel_rfl] at f0 f2 f3 f4 f5
    rw [show Try.prog.cellsOf 9 = 1 by kernel_rfl] at f1
    rw [show Try.prog.cellsOf 4 = 1 by kernel_rfl] at f6
    match xs, hxl with
    | [y0, y1, y2, y3, y4, y5, y6], _ =>
      obtain ⟨n0, e0, _⟩ := DataW.trod_int Try.underlying3 f0
      obtain ⟨n1, e1, _, q1⟩ := DataW.trod_string Try.underlying9 f1
      obtain ⟨n2, e2, _⟩ := DataW.trod_int Try.underlying3 f2
      obtain ⟨n3, e3, _⟩ := DataW.trod_int Try.underlying3 f3
      obtain ⟨n4, e4, _⟩ := DataW.trod_int Try.underlying3 f4
      obtain ⟨n5, e5, _⟩ := DataW.trod_int Try.underlying3 f5
      obtain ⟨n6, e6, _⟩ := DataW.trod_bool Try.underlying4 f6
      cases e0; cases e1; cases e2; cases e3; cases e4; cases e5; cases e6
      exact ⟨⟨n0, n1, n2, n3, n4, n5, n6⟩, rfl, q1⟩

theorem stats_open {H : Type} {enc : TypeId × Value → H} {W : World} {base : Nat} {spare : Nat → Bool} {held : Bool} {t : TypeId} {a : Option Addr} {len cap : Nat} {d : DataW H} {ps : List MemPlace} {ts : List TypeId} {ds : List (DataW H)} {j : Nat}
    (hsz : (DataW.weightsEach Try.prog ts ds).all (· ≤ reachBytes) = true) (ht : ts[j]? = some t) (hd : ds[j]? = some d) (htt : t = 22)
    (h : DataW.Trod enc Try.prog W base spare held t (.slice a len cap) d ps) : ∃ ss : List St, Ss W a len ss ∧ len ≤ cap ∧ (a = none → len = 0 ∧ cap = 0) ∧ len * 64 ≤ 140737488351232 ∧ ∀ s ∈ ss, s.fn.size ≤ maxLen := by
  subst htt
  have hL := light_arg hsz ht hd
  obtain ⟨fuel, hf⟩ := h
  rcases open_slice Try.underlying22 hf with ⟨hcs, _⟩ | ⟨x, l, c, m, n, D, Pl, hcs, _, hlc, _, hm, hx, hi⟩
  · simp [Value.cells] at hcs
    obtain ⟨rfl, rfl, rfl⟩ := hcs
    exact ⟨[], ⟨rfl, fun h0 => absurd h0 (by decide)⟩, Nat.le_refl _, fun _ => ⟨rfl, rfl⟩, by omega, fun s hs => by cases hs⟩
  · simp [Value.cells] at hcs
    obtain ⟨rfl, rfl, rfl⟩ := hcs
    obtain ⟨hx, _⟩ := Prod.mk.inj hx
    subst hx
    have z := hL.len Try.underlying22
    rw [show Try.prog.bytesOf 38 = 64 by kernel_rfl] at z
    simp only [List.length_map, List.length_range] at z
    have hz : len * 64 ≤ 140737488351232 := Nat.le_trans (Nat.mul_le_mul_right _ (by omega)) z
    have hlm : len ≤ m := by rw [hm]; split <;> omega
    have hV : ∀ i, i < len → ∃ s : St, (∀ q, q < 7 → W.cell? (x.add (i * 7 + q)) = s.cells[q]?) ∧ s.fn.size ≤ maxLen := by
      intro i hil
      obtain ⟨cs, hc, hd⟩ := hi i (by omega)
      rw [show Try.prog.cellsOf 38 = 7 by kernel_rfl] at hc
      obtain ⟨_, _, hcell⟩ := World.cells?_some hc
      obtain ⟨s, hs, hz⟩ := stat_inner hd
      subst hs
      refine ⟨s, fun q hq => ?_, hz⟩
      have := hcell q hq
      rw [addr_add] at this
      exact this
    obtain ⟨f, hf2⟩ := choose_lt hV
    refine ⟨(List.range len).map f, ⟨by simp, fun _ => ⟨x, rfl, fun j hj => ?_⟩⟩, hlc, (fun h => nomatch h), hz, fun s hs => ?_⟩
    rotate_left
    · obtain ⟨i, hi, rfl⟩ := List.mem_map.1 hs
      exact (hf2 i (List.mem_range.1 hi)).2
    rw [sts_len, List.length_map, List.length_range] at hj
    have h7 : j / 7 * 7 + j % 7 = j := by omega
    have hg : ((List.range len).map f)[j / 7]? = some (f (j / 7)) := by
      rw [List.getElem?_map, List.getElem?_range (by omega)]
      rfl
    have h1 := (hf2 (j / 7) (by omega)).1 (j % 7) (by omega)
    have h2 := sts_get _ (j / 7) (j % 7) _ hg (by omega)
    rw [h7] at h1 h2
    rw [h1, h2]
end Go.Proofs.Ytfiimmbpfdpjfaa
