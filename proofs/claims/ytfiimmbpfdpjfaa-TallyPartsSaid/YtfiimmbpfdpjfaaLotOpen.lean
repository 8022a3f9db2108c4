/-
  An argument's parts are light (of LotOpen, without lots).
-/
import Derived.Test.YtfiimmbpfdpjfaaLotC
import Derived.Test.YtfiimmbpfdpjfaaOpen
namespace Go.Proofs.Ytfiimmbpfdpjfaa
open Go.RowKit Go.ChangeShapes Go.WideShapes Go.Deep
set_option linter.unusedSimpArgs false

/-- no list in it weighs more than the reach -/
def Light {H : Type} (t : TypeId) (d : DataW H) : Prop := ∀ n ∈ d.weights Try.prog t, n ≤ reachBytes
theorem light_arg {H : Type} {ts : List TypeId} {ds : List (DataW H)} {j : Nat} {t : TypeId} {d : DataW H} (h : (DataW.weightsEach Try.prog ts ds).all (· ≤ reachBytes) = true) (ht : ts[j]? = some t) (hd : ds[j]? = some d) : Light t d := fun n hn => by
  have := List.all_eq_true.1 h _ (DataW.weights_mem_each ht hd n hn)
  simpa using this
theorem weightsAll_mem {H : Type} {P : Program} {e : TypeId} : ∀ {l : List (DataW H)} {d : DataW H}, d ∈ l → ∀ n ∈ d.weights P e, n ∈ DataW.weightsAll P e l
  | x :: l, d, hd, n, hn => by
    simp only [DataW.weightsAll, List.mem_append]
    rcases List.mem_cons.1 hd with rfl | hd
    · exact .inl hn
    · exact .inr (weightsAll_mem hd n hn)
theorem Light.elem {H : Type} {t e : TypeId} {l m : List (DataW H)} (h : Light t (.slice l m)) (hu : Try.prog.underlying t = some (.slice e)) {d : DataW H} (hd : d ∈ l) : Light e d := fun n hn => h n (by
  simp only [DataW.weights, hu, List.mem_cons, List.mem_append]
  exact .inr (.inl (weightsAll_mem hd n hn)))
theorem Light.len {H : Type} {t e : TypeId} {l m : List (DataW H)} (h : Light t (.slice l m)) (hu : Try.prog.underlying t = some (.slice e)) : (l.length + m.length) * Try.prog.bytesOf e ≤ reachBytes := h _ (by
  simp [DataW.weights, hu])
theorem Light.field {H : Type} {t : TypeId} {fs : Array Field} {l : List (DataW H)} (h : Light t (.agg l)) (hu : Try.prog.underlying t = some (.struct fs)) {j : Nat} {f : Field} {d : DataW H} (hf : fs[j]? = some f) (hd : l[j]? = some d) : Light f.type d := fun n hn => h n (by
  simp only [DataW.weights, hu]
  exact DataW.weights_mem_each (j := j) (by rw [List.getElem?_map, Array.getElem?_toList, hf]; rfl) hd n hn)

/-- a slice of floats inside of an argument -/
theorem fs_inner {H : Type} {enc : TypeId × Value → H} {W : World} {base : Nat} {spare : Nat → Bool} {held : Bool} {n : Nat} {v : Value} {d : DataW H} {ps : List MemPlace} (hl : Light 61 d)
    (h : DataW.trod enc Try.prog W base spare held n 61 [v] = some (d, ps)) : ∃ a len cap zs, v = .slice a len cap ∧ Fs W a len zs ∧ len ≤ cap ∧ (a = none → len = 0 ∧ cap = 0) ∧ len * 8 ≤ 140737488351232 := by
  rcases open_slice1 Try.underlying61 (by kernel_rfl) h with ⟨hcs, _⟩ | ⟨x, l, c, m, n', V, D, Pl, hcs, _, hlc, _, hm, hx, hcell⟩
  · cases hcs
    exact ⟨none, 0, 0, [], rfl, Fs.mk rfl (by omega) (by intro x hx; cases hx) (fun h0 => absurd h0 (by omega)), by omega, fun _ => ⟨rfl, rfl⟩, by omega⟩
  · cases hcs
    obtain ⟨hx, _⟩ := Prod.mk.inj hx
    subst hx
    have z := hl.len Try.underlying61
    rw [show Try.prog.bytesOf 26 = 8 by kernel_rfl] at z
    simp only [List.length_map, List.length_range] at z
    have hz : l * 8 ≤ 140737488351232 := Nat.le_trans (Nat.mul_le_mul_right _ (by omega)) z
    have hlm : l ≤ m := by rw [hm]; split <;> omega
    have hV : ∀ i, i < l → ∃ b, W.cell? (x.add i) = some (.float .f64 b) ∧ b < 18446744073709551616 := by
      intro i hi
      obtain ⟨h1, h2⟩ := hcell i (by omega)
      obtain ⟨b, e1, _, e3⟩ := trod_float Try.underlying26 h2
      refine ⟨b, ?_, by simpa [Lit.wf] using e3⟩
      rw [h1]
      simpa using e1
    obtain ⟨f, hf2⟩ := choose_lt hV
    refine ⟨some x, l, c, (List.range l).map f, rfl, ⟨by simp, by omega, ?_, fun _ => ⟨x, rfl, fun i hi => ?_⟩⟩, hlc, (fun h => nomatch h), hz⟩
    · intro y hy
      obtain ⟨i, hi, rfl⟩ := List.mem_map.1 hy
      exact (hf2 i (List.mem_range.1 hi)).2
    · rw [(hf2 i hi).1]
      simp [List.getD_eq_getElem?_getD, hi]

end Go.Proofs.Ytfiimmbpfdpjfaa
