/-
  An argument that holds slices of numbers inside of a struct, opened.
-/
import Derived.Test.YtkoepaagdaconaaInts
import Derived.Deep.Slices
import Derived.SizedLaws
import Derived.Laws.Cover2
import Derived.ProofKit
import Derived.Lib.SmallJoins
namespace Go.Proofs.Ytkoepaagdaconaa
open Go.RowKit Go.ChangeShapes Go.WideShapes Go.Deep
set_option linter.unusedSimpArgs false

/-- no list in it weighs more than the reach -/
def Light {H : Type} (t : TypeId) (d : DataW H) : Prop := ∀ n ∈ d.weights Try.prog t, n ≤ reachBytes
theorem light_arg {H : Type} {ts : List TypeId} {ds : List (DataW H)} {j : Nat} {t : TypeId} {d : DataW H} (h : (DataW.weightsEach Try.prog ts ds).all (· ≤ reachBytes) = true) (ht : ts[j]? = some t) (hd : ds[j]? = some d) : Light t d := fun n hn => by
  have := List.all_eq_true.1 h _ (DataW.weights_mem_each ht hd n hn)
  simpa using this
theorem weightsAll_mem {H : Type} {P : Program} {e : TypeId} : ∀ {l : List (DataW H)} {d : DataW H}, d ∈ l → ∀ n ∈ d.weights P e, n ∈ DataW.weightsAll P e l
  | x :: l, d, hd, n, hn => by
    simp only [DataW.weightsAll, List.mem_append]
    rcases List.mem_cons.1 hd with rfl | hd
    · exact .inl hn
    · exact .inr (weightsAll_mem hd n hn)
theorem Light.elem {H : Type} {t e : TypeId} {l m : List (DataW H)} (h : Light t (.slice l m)) (hu : Try.prog.underlying t = some (.slice e)) {d : DataW H} (hd : d ∈ l) : Light e d := fun n hn => h n (by
  simp only [DataW.weights, hu, List.mem_cons, List.mem_append]
  exact .inr (.inl (weightsAll_mem hd n hn)))
theorem Light.len {H : Type} {t e : TypeId} {l m : List (DataW H)} (h : Light t (.slice l m)) (hu : Try.prog.underlying t = some (.slice e)) : (l.length + m.length) * Try.prog.bytesOf e ≤ reachBytes := h _ (by
  simp [DataW.weights, hu])
theorem Light.field {H : Type} {t : TypeId} {fs : Array Field} {l : List (DataW H)} (h : Light t (.agg l)) (hu : Try.prog.underlying t = some (.struct fs)) {j : Nat} {f : Field} {d : DataW H} (hf : fs[j]? = some f) (hd : l[j]? = some d) : Light f.type d := fun n hn => h n (by
  simp only [DataW.weights, hu]
  exact DataW.weights_mem_each (j := j) (by rw [List.getElem?_map, Array.getElem?_toList, hf]; rfl) hd n hn)

/-- a slice of numbers inside of an argument -/
theorem is_inner {H : Type} {enc : TypeId × Value → H} {W : World} {base : Nat} {spare : Nat → Bool} {held : Bool} {n : Nat} {v : Value} {d : DataW H} {ps : List MemPlace} (hl : Light 22 d)
    (h : DataW.trod enc Try.prog W base spare held n 22 [v] = some (d, ps)) : ∃ a len cap zs, v = .slice a len cap ∧ Is W a len zs ∧ len * 8 ≤ 140737488351232 := by
  rcases open_ints Try.underlying22 Try.underlying3 (by kernel_rfl) h with ⟨hcs, _⟩ | ⟨x, l, c, zs, hcs, _, hlc, _, hm, hx, hcell, hw⟩
  · cases hcs
    exact ⟨none, 0, 0, [], rfl, ⟨rfl, by omega, (by intro x hx; cases hx), fun h0 => absurd h0 (by omega)⟩, by omega⟩
  · cases hcs
    obtain ⟨hx, _⟩ := Prod.mk.inj hx
    subst hx
    have hlm : l ≤ zs.length := by rw [hm]; split <;> omega
    have z := hl.len Try.underlying22
    rw [show Try.prog.bytesOf 3 = 8 by kernel_rfl] at z
    have z2 : (lits (H := H) .i64 (zs.take l)).length + (lits (H := H) .i64 (zs.drop l)).length = zs.length := by
      simp only [lits, List.length_map, List.length_take, List.length_drop]; omega
    rw [z2] at z
    have hz : l * 8 ≤ 140737488351232 := Nat.le_trans (Nat.mul_le_mul_right _ hlm) z
    refine ⟨some x, l, c, zs.take l, rfl, ⟨by rw [List.length_take]; omega, by omega, ?_, fun _ => ⟨x, rfl, fun i hi => ?_⟩⟩, hz⟩
    · intro y hy
      have := hw y (List.mem_of_mem_take hy)
      simp only [Lit.wf, Bool.and_eq_true, decide_eq_true_eq] at this
      exact ⟨this.1, this.2⟩
    · rw [hcell i (by omega)]
      simp [List.getD_eq_getElem?_getD, hi]
end Go.Proofs.Ytkoepaagdaconaa
