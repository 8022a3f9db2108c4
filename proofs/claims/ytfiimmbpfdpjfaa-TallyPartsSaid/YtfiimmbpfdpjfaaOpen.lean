/-
  An argument that is a slice of floats, opened: it reads as a list of words, and is no longer than its weight allows.
-/
import Derived.Test.YtfiimmbpfdpjfaaMem
import Derived.Test.YtfiimmbpfdpjfaaRows
import Derived.Deep.Slices
import Derived.SizedLaws
import Derived.Laws.Cover2
import Derived.ProofKit
namespace Go.Proofs.Ytfiimmbpfdpjfaa
open Go.RowKit Go.ChangeShapes Go.WideShapes Go.Deep

theorem trod_float {H : Type} {enc : TypeId × Value → H} {P : Program} {w : World} {base : Nat} {spare : Nat → Bool} {held : Bool} {fuel : Nat} {t : TypeId} {k : FloatKind} {cs : List Value} {x : DataW H × List MemPlace}
    (ht : P.underlying t = some (.float k)) (h : DataW.trod enc P w base spare held fuel t cs = some x) : ∃ b, cs = [.float k b] ∧ x = (.lit (.float k b), []) ∧ (Lit.float k b).wf = true := by
  cases fuel with
  | zero => simp [DataW.trod] at h
  | succ n =>
    unfold DataW.trod at h
    rw [ht] at h
    split at h <;> simp_all

theorem fs_open_any {H : Type} {enc : TypeId × Value → H} {P : Program} {W : World} {base : Nat} {spare : Nat → Bool} {held : Bool} {t e : TypeId} {a : Option Addr} {len cap : Nat} {d : DataW H} {ps : List MemPlace} {ts : List TypeId} {ds : List (DataW H)} {j : Nat}
    (hsz : (DataW.weightsEach P ts ds).all (· ≤ reachBytes) = true) (ht : ts[j]? = some t) (hd : ds[j]? = some d) (hu : P.underlying t = some (.slice e)) (he : P.underlying e = some (.float .f64)) (hc : P.cellsOf e = 1) (hB : P.bytesOf e = 8)
    (h : DataW.Trod enc P W base spare held t (.slice a len cap) d ps) : ∃ zs, Fs W a len zs ∧ len * 8 ≤ 140737488351232 := by
  obtain ⟨fuel, hf⟩ := h
  rcases open_slice1 hu hc hf with ⟨hcs, _⟩ | ⟨x, l, c, m, n, V, D, Pl, hcs, _, hl, _, hm, hx, hcell⟩
  · simp [Value.cells] at hcs
    obtain ⟨rfl, rfl, rfl⟩ := hcs
    exact ⟨[], Fs.mk rfl (by omega) (by intro x hx; cases hx) (fun h0 => absurd h0 (by omega)), by omega⟩
  · simp [Value.cells] at hcs
    obtain ⟨rfl, rfl, rfl⟩ := hcs
    obtain ⟨hx, _⟩ := Prod.mk.inj hx
    subst hx
    have z := sized_slice hsz ht hd hu
    rw [hB] at z
    simp only [List.length_map, List.length_range] at z
    have hz : len * 8 ≤ 140737488351232 := Nat.le_trans (Nat.mul_le_mul_right _ (by omega)) z
    have hlm : len ≤ m := by rw [hm]; split <;> omega
    have hV : ∀ i, i < len → ∃ b, W.cell? (x.add i) = some (.float .f64 b) ∧ b < 18446744073709551616 := by
      intro i hi
      obtain ⟨h1, h2⟩ := hcell i (by omega)
      obtain ⟨b, e1, _, e3⟩ := trod_float he h2
      refine ⟨b, ?_, by simpa [Lit.wf] using e3⟩
      rw [h1]
      simpa using e1
    obtain ⟨f, hf2⟩ := choose_lt hV
    refine ⟨(List.range len).map f, ⟨by simp, by omega, ?_, fun _ => ⟨x, rfl, fun i hi => ?_⟩⟩, hz⟩
    · intro y hy
      obtain ⟨i, hi, rfl⟩ := List.mem_map.1 hy
      exact (hf2 i (List.mem_range.1 hi)).2
    · rw [(hf2 i hi).1]
      simp [List.getD_eq_getElem?_getD, hi]

theorem fs_open {H : Type} {enc : TypeId × Value → H} {W : World} {base : Nat} {spare : Nat → Bool} {held : Bool} {t : TypeId} {a : Option Addr} {len cap : Nat} {d : DataW H} {ps : List MemPlace} {ts : List TypeId} {ds : List (DataW H)} {j : Nat}
    (hsz : (DataW.weightsEach Try.prog ts ds).all (· ≤ reachBytes) = true) (ht : ts[j]? = some t) (hd : ds[j]? = some d) (htt : t = 61)
    (h : DataW.Trod enc Try.prog W base spare held t (.slice a len cap) d ps) : ∃ zs, Fs W a len zs ∧ len * 8 ≤ 140737488351232 := by
  subst htt
  exact fs_open_any hsz ht hd Try.underlying61 Try.underlying26 (by kernel_rfl) (by kernel_rfl) h
end Go.Proofs.Ytfiimmbpfdpjfaa
