/-
  An argument that is a slice of ints, opened: it reads as a list of numbers, and is no longer than its weight allows.
-/
import Derived.Test.YtkoepaagdaconaaMem
import Derived.Test.YtkoepaagdaconaaRows
import Derived.Deep.Slices
import Derived.ChangeSlices
import Derived.SizedLaws
namespace Go.Proofs.Ytkoepaagdaconaa
open Go.RowKit Go.ChangeShapes

/-- a slice that reads as a list of ints -/
structure Is (w : World) (A : Option Addr) (n : Nat) (xs : List Int) : Prop where
  len : xs.length = n
  small : n ≤ 140737488355328
  wf : ∀ x ∈ xs, -9223372036854775808 ≤ x ∧ x ≤ 9223372036854775807
  at_ : 0 < n → ∃ ad, A = some ad ∧ ∀ j, j < n → w.cell? (ad.add j) = some (.int .i64 (xs.getD j 0))
theorem Is.below {w w1 : World} {A : Option Addr} {n : Nat} {xs : List Int} (h : Is w A n xs) (hb : Below w.heap.size w w1) : Is w1 A n xs :=
  ⟨h.len, h.small, h.wf, fun hn => by
    obtain ⟨ad, e, hc⟩ := h.at_ hn
    refine ⟨ad, e, fun j hj => ?_⟩
    rw [hb.cell (p := ad.add j) (cell_lt (hc j hj))]
    exact hc j hj⟩
theorem Is.word {w : World} {A : Option Addr} {n : Nat} {xs : List Int} (h : Is w A n xs) (k : Nat) : -9223372036854775808 ≤ xs.getD k 0 ∧ xs.getD k 0 ≤ 9223372036854775807 := by
  rw [List.getD_eq_getElem?_getD]
  by_cases hk : k < xs.length
  · rw [List.getElem?_eq_getElem hk]
    exact h.wf _ (List.getElem_mem hk)
  · rw [List.getElem?_eq_none (by omega)]
    decide

theorem is_open_any {H : Type} {enc : TypeId × Value → H} {P : Program} {W : World} {base : Nat} {spare : Nat → Bool} {held : Bool} {t e : TypeId} {a : Option Addr} {len cap : Nat} {d : DataW H} {ps : List MemPlace} {ts : List TypeId} {ds : List (DataW H)} {j : Nat}
    (hsz : (DataW.weightsEach P ts ds).all (· ≤ reachBytes) = true) (ht : ts[j]? = some t) (hd : ds[j]? = some d) (hu : P.underlying t = some (.slice e)) (he : P.underlying e = some (.int .i64)) (hc : P.cellsOf e = 1) (hB : P.bytesOf e = 8)
    (h : DataW.Trod enc P W base spare held t (.slice a len cap) d ps) : ∃ zs, Is W a len zs ∧ len * 8 ≤ 140737488351232 := by
  obtain ⟨fuel, hf⟩ := h
  rcases open_ints hu he hc hf with ⟨hcs, _⟩ | ⟨x, l, c, zs, hcs, _, hl, _, hm, hx, hcell, hw⟩
  · simp [Value.cells] at hcs
    obtain ⟨rfl, rfl, rfl⟩ := hcs
    exact ⟨[], ⟨rfl, by omega, (by intro x hx; cases hx), fun h0 => absurd h0 (by omega)⟩, by omega⟩
  · simp [Value.cells] at hcs
    obtain ⟨rfl, rfl, rfl⟩ := hcs
    obtain ⟨hx, _⟩ := Prod.mk.inj hx
    subst hx
    have hlm : len ≤ zs.length := by rw [hm]; split <;> omega
    have z := sized_slice hsz ht hd hu
    rw [hB] at z
    have z2 : (lits (H := H) .i64 (zs.take len)).length + (lits (H := H) .i64 (zs.drop len)).length = zs.length := by
      simp only [lits, List.length_map, List.length_take, List.length_drop]; omega
    rw [z2] at z
    have hz : len * 8 ≤ 140737488351232 := Nat.le_trans (Nat.mul_le_mul_right _ hlm) z
    refine ⟨zs.take len, ⟨by rw [List.length_take]; omega, by omega, ?_, fun _ => ⟨x, rfl, fun i hi => ?_⟩⟩, hz⟩
    · intro y hy
      have := hw y (List.mem_of_mem_take hy)
      simp only [Lit.wf, Bool.and_eq_true, decide_eq_true_eq] at this
      exact ⟨this.1, this.2⟩
    · rw [hcell i (by omega)]
      simp [List.getD_eq_getElem?_getD, hi]
theorem is_open {H : Type} {enc : TypeId × Value → H} {W : World} {base : Nat} {spare : Nat → Bool} {held : Bool} {t : TypeId} {a : Option Addr} {len cap : Nat} {d : DataW H} {ps : List MemPlace} {ts : List TypeId} {ds : List (DataW H)} {j : Nat}
    (hsz : (DataW.weightsEach Try.prog ts ds).all (· ≤ reachBytes) = true) (ht : ts[j]? = some t) (hd : ds[j]? = some d) (htt : t = 22)
    (h : DataW.Trod enc Try.prog W base spare held t (.slice a len cap) d ps) : ∃ zs, Is W a len zs ∧ len * 8 ≤ 140737488351232 := by
  subst htt
  exact is_open_any hsz ht hd Try.underlying22 Try.underlying3 (by kernel_rfl) (by kernel_rfl) h
end Go.Proofs.Ytkoepaagdaconaa
