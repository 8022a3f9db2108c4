/-
  The plain part of WaitqStands' last loop: what the lists that come out have of each wait that was told.
-/
import Derived.Test.YtgndpodeedjohaaWrO
namespace Go.Proofs.Ytgndpodeedjohaa
open Go.RowKit Go.Maps
set_option linter.unusedSimpArgs false

theorem nodup_sublist_hasN {L T : List Rc} (hs : L.Sublist T) (hap : T.Pairwise fun a b => ¬ (a.ms = b.ms ∧ a.mg = b.mg)) {r : Rc} (hr : r ∈ T) : hasN L r.ms r.mg = if r ∈ L then 1 else 0 := by
  induction hs with
  | slnil => simp [hasN]
  | @cons L T a hs ih =>
    rw [List.pairwise_cons] at hap
    rcases List.mem_cons.1 hr with e | e
    · subst e
      have h1 : r ∉ L := fun h => hap.1 r (hs.subset h) ⟨rfl, rfl⟩
      rw [if_neg h1]
      unfold hasN
      rw [List.length_eq_zero_iff, List.filter_eq_nil_iff]
      intro q hq e
      have := sameH_iff.1 e
      exact hap.1 q (hs.subset hq) ⟨this.1.symm, this.2.symm⟩
    · exact ih hap.2 e
  | @cons_cons L T a hs ih =>
    rw [List.pairwise_cons] at hap
    rcases List.mem_cons.1 hr with e | e
    · subst e
      rw [if_pos List.mem_cons_self]
      have h1 : r ∉ L := fun h => hap.1 r (hs.subset h) ⟨rfl, rfl⟩
      have h2 : L.filter (fun q => sameH q.ms q.mg r.ms r.mg) = [] := by
        rw [List.filter_eq_nil_iff]
        intro q hq e
        have := sameH_iff.1 e
        exact hap.1 q (hs.subset hq) ⟨this.1.symm, this.2.symm⟩
      unfold hasN
      rw [List.filter_cons, if_pos (sameH_iff.2 ⟨rfl, rfl⟩), h2]; rfl
    · have hne : a ≠ r := fun q => hap.1 r e (by rw [q]; exact ⟨rfl, rfl⟩)
      have h3 : sameH a.ms a.mg r.ms r.mg = false := by
        rw [← Bool.not_eq_true]
        intro q
        exact hap.1 r e (sameH_iff.1 q)
      have := ih hap.2 e
      unfold hasN at *
      rw [List.filter_cons, h3]
      simp only [Bool.false_eq_true, if_false]
      rw [this]
      by_cases q : r ∈ L
      · rw [if_pos q, if_pos (List.mem_cons_of_mem _ q)]
      · rw [if_neg q, if_neg (fun q2 => by
          rcases List.mem_cons.1 q2 with q3 | q3
          · exact hne q3.symm
          · exact q q3)]
section
variable {B : Bk} {T : List Rc} {O : List Int}
theorem Stand.mem_live (h : Stand B T O) {k : Nat} {r : Rc} {o : Int} (hr : T[k]? = some r) (ho : O[k]? = some o) : r ∈ liveOf T O ↔ o = 0 := by
  rw [mem_liveOf]
  constructor
  · rintro ⟨k', h1, h2⟩
    have hkk : k' = k := (List.getElem?_inj (List.getElem?_eq_some_iff.1 h1).1 h.nodup).1 (h1.trans hr.symm)
    subst hkk
    rw [ho] at h2
    exact Option.some.inj h2
  · rintro rfl
    exact ⟨k, hr, ho⟩
/-- of a list of those that are there, by whatever fits -/
theorem Stand.has (h : Stand B T O) {k : Nat} {r : Rc} {o : Int} (hr : T[k]? = some r) (ho : O[k]? = some o) (p : Rc → Bool) (hp : p r = true) : ((hasN ((liveOf T O).filter p) r.ms r.mg : Nat) : Int) = 1 - o := by
  rw [nodup_sublist_hasN (List.filter_sublist.trans (liveOf_sub T O)) h.apart (List.mem_of_getElem? hr)]
  have hm := h.mem_live hr ho
  rcases h.zo o (List.mem_of_getElem? ho) with rfl | rfl
  · rw [if_pos (List.mem_filter.2 ⟨hm.2 rfl, hp⟩)]; rfl
  · rw [if_neg (fun q => by have := hm.1 (List.mem_filter.1 q).1; omega)]; rfl
theorem Stand.rowL (h : Stand B T O) (k : Key) : (inRow k B.N).map (·.rc) = (liveOf T O).filter fun q => decide (q.key = k) := by
  rw [← h.live, List.filter_map]; rfl
theorem Stand.ofL (h : Stand B T O) (hs hg : Int) : (B.N.filter fun x => sameH x.rc.hs x.rc.hg hs hg).map (·.rc) = (liveOf T O).filter fun q => sameH q.hs q.hg hs hg := by
  rw [← h.live, List.filter_map]; rfl
theorem liveOf_split : ∀ (j : Nat) (T : List Rc) (O : List Int), liveOf T O = liveOf (T.take j) (O.take j) ++ liveOf (T.drop j) (O.drop j)
  | 0, T, O => by simp [liveOf]
  | j + 1, [], O => by simp [liveOf]
  | j + 1, a :: T, [] => by simp [liveOf]
  | j + 1, a :: T, o :: O => by
    simp only [List.take_succ_cons, List.drop_succ_cons, liveOf]
    rw [liveOf_split j T O]
    split <;> simp
/-- how many of the first j stand in a row -/
def rowUp (k : Key) (T : List Rc) (O : List Int) (j : Nat) : Nat := ((liveOf (T.take j) (O.take j)).filter fun q => decide (q.key = k)).length
theorem rowUp_zero (k : Key) (T : List Rc) (O : List Int) : rowUp k T O 0 = 0 := by simp [rowUp, liveOf]
theorem rowUp_all (k : Key) {T : List Rc} {O : List Int} (hl : O.length = T.length) : rowUp k T O T.length = ((liveOf T O).filter fun q => decide (q.key = k)).length := by
  unfold rowUp
  rw [List.take_of_length_le (Nat.le_refl _), List.take_of_length_le (by omega)]
theorem rowUp_step {k : Key} {T : List Rc} {O : List Int} (hl : O.length = T.length) {j : Nat} {r : Rc} {o : Int} (hr : T[j]? = some r) (ho : O[j]? = some o) : rowUp k T O (j + 1) = rowUp k T O j + (if o = 0 ∧ r.key = k then 1 else 0) := by
  unfold rowUp
  rw [liveOf_take hl hr ho, List.filter_append, List.length_append]
  congr 1
  by_cases h1 : o = 0
  · rw [if_pos h1, List.filter_cons]
    by_cases h2 : r.key = k <;> simp [h1, h2]
  · rw [if_neg h1, if_neg (fun h => h1 h.1)]; rfl
theorem rowUp_le (k : Key) (T : List Rc) (O : List Int) (j : Nat) : rowUp k T O j ≤ j := by
  unfold rowUp
  refine Nat.le_trans (List.length_filter_le _ _) (Nat.le_trans (liveOf_sub _ _).length_le ?_)
  rw [List.length_take]; omega
/-- the one at place j stands there in the row -/
theorem rowUp_at {k : Key} {T : List Rc} {O : List Int} (hl : O.length = T.length) {j : Nat} {r : Rc} (hr : T[j]? = some r) (ho : O[j]? = some 0) (hk : r.key = k) : ((liveOf T O).filter fun q => decide (q.key = k))[rowUp k T O j]? = some r := by
  have e : (liveOf T O).filter (fun q => decide (q.key = k)) = (liveOf (T.take j) (O.take j)).filter (fun q => decide (q.key = k)) ++ (r :: (liveOf (T.drop (j + 1)) (O.drop (j + 1))).filter fun q => decide (q.key = k)) := by
    rw [liveOf_split (j + 1) T O, liveOf_take hl hr ho, if_pos rfl, List.filter_append, List.filter_append, List.append_assoc]
    congr 1
    rw [List.filter_cons, if_pos (decide_eq_true hk)]; rfl
  rw [e]
  unfold rowUp
  rw [List.getElem?_append_right (Nat.le_refl _), Nat.sub_self]; rfl
end
end Go.Proofs.Ytgndpodeedjohaa
