/-
  some of a book.
-/
import Derived.Test.YtkdiibgjkipdnaaWqS
namespace Go.Proofs.Ytkdiibgjkipdnaa
open Go.RowKit Go.Maps Go.Sort
set_option linter.unusedSimpArgs false

def ndAt (N : List Nd) (i : Nat) : Option Nd := N.find? fun x => decide (x.rc.ms = (i : Int) + 1)
theorem slotOf_ndAt (N : List Nd) (i : Nat) : slotOf N i = (ndAt N i).map (·.blk) := rfl
theorem ndAt_some {N : List Nd} {i : Nat} {x : Nd} (h : ndAt N i = some x) : x ∈ N ∧ x.rc.ms = (i : Int) + 1 := by
  unfold ndAt at h
  exact ⟨List.mem_of_find?_eq_some h, by have := List.find?_some h; simpa using this⟩
theorem ndAt_mem {N : List Nd} (hn : (N.map (·.rc.ms)).Nodup) {x : Nd} (hx : x ∈ N) {i : Nat} (hi : x.rc.ms = (i : Int) + 1) : ndAt N i = some x := by
  cases h : ndAt N i with
  | none =>
    unfold ndAt at h
    rw [List.find?_eq_none] at h
    exact absurd (decide_eq_true hi) (h x hx)
  | some y =>
    obtain ⟨h1, h2⟩ := ndAt_some h
    rw [nodup_inj hn h1 hx (h2.trans hi.symm)]
/-- those that fit, of the first j slots -/
def picks (N : List Nd) (p : Nd → Bool) (j : Nat) : List Nd := ((List.range j).filterMap (ndAt N)).filter p
theorem picks_succ (N : List Nd) (p : Nd → Bool) (j : Nat) : picks N p (j + 1) = picks N p j ++ (match ndAt N j with | some x => if p x then [x] else [] | none => []) := by
  unfold picks
  rw [List.range_succ, List.filterMap_append, List.filter_append]
  congr 1
  cases h : ndAt N j with
  | none => simp [h]
  | some x => simp [h, List.filter_cons]
theorem picks_perm {bp : Nat} {B : Bk} (h : BookOk bp B) (p : Nd → Bool) : (picks B.N p B.gens.length).Perm (B.N.filter p) := by
  unfold picks
  refine List.Perm.filter p ?_
  refine (List.perm_ext_iff_of_nodup ?_ ?_).2 fun x => ?_
  · rw [List.Nodup, List.pairwise_filterMap]
    refine List.nodup_range.imp ?_
    intro a b hab x hx y hy e
    subst e
    have h1 := (ndAt_some hx).2
    have h2 := (ndAt_some hy).2
    omega
  · have hb := h.blks
    exact List.Pairwise.of_map (·.blk) (fun a b hab e => hab (by rw [e])) hb
  · rw [List.mem_filterMap]
    constructor
    · rintro ⟨i, _, hi⟩; exact (ndAt_some hi).1
    · intro hx
      obtain ⟨i, h1, h2⟩ := h.slot x hx
      exact ⟨i, List.mem_range.2 (List.getElem?_eq_some_iff.1 h2).1, ndAt_mem h.ms hx h1⟩
theorem picks_len {bp : Nat} {B : Bk} (h : BookOk bp B) (p : Nd → Bool) {j : Nat} (hj : j ≤ B.gens.length) : (picks B.N p j).length ≤ 100000 := by
  have h1 : (picks B.N p j).length ≤ j := by
    unfold picks
    refine Nat.le_trans (List.length_filter_le _ _) (Nat.le_trans (List.length_filterMap_le _ _) (by simp))
  have := h.few
  omega
theorem filter_ser {bp : Nat} {B : Bk} (h : BookOk bp B) (p : Nd → Bool) : (B.N.filter p).Pairwise fun x y => x.ser < y.ser := h.ser.sublist List.filter_sublist
end Go.Proofs.Ytkdiibgjkipdnaa
