/-
  What a script has told: the plain part of WaitqStands.
-/
import Derived.Test.YtgndpodeedjohaaWqX
namespace Go.Proofs.Ytgndpodeedjohaa
open Go.RowKit Go.Maps
set_option linter.unusedSimpArgs false

def liveOf : List Rc → List Int → List Rc
  | r :: T, o :: O => if o = 0 then r :: liveOf T O else liveOf T O
  | _, _ => []
theorem liveOf_append (r : Rc) : ∀ (T : List Rc) (O : List Int), O.length = T.length → liveOf (T ++ [r]) (O ++ [0]) = liveOf T O ++ [r]
  | [], [], _ => rfl
  | a :: T, o :: O, h => by
    have ih := liveOf_append r T O (by simpa using h)
    simp only [List.cons_append, liveOf]
    rw [ih]
    split <;> rfl
theorem liveOf_sub : ∀ (T : List Rc) (O : List Int), (liveOf T O).Sublist T
  | [], _ => List.Sublist.refl _
  | _ :: _, [] => by simp [liveOf]
  | a :: T, o :: O => by
    have ih := liveOf_sub T O
    unfold liveOf
    split
    · exact ih.cons_cons a
    · exact ih.cons a
theorem mem_liveOf {r : Rc} : ∀ {T : List Rc} {O : List Int}, r ∈ liveOf T O ↔ ∃ k : Nat, T[k]? = some r ∧ O[k]? = some 0
  | [], O => by simp [liveOf]
  | a :: T, [] => by simp [liveOf]
  | a :: T, o :: O => by
    unfold liveOf
    constructor
    · intro h
      split at h
      · rename_i ho
        rcases List.mem_cons.1 h with e | e
        · exact ⟨0, by simp [e], by simp [ho]⟩
        · obtain ⟨k, h1, h2⟩ := mem_liveOf.1 e
          exact ⟨k + 1, by simpa using h1, by simpa using h2⟩
      · obtain ⟨k, h1, h2⟩ := mem_liveOf.1 h
        exact ⟨k + 1, by simpa using h1, by simpa using h2⟩
    · rintro ⟨k, h1, h2⟩
      cases k with
      | zero =>
        simp at h1 h2
        subst h1; subst h2
        simp
      | succ k =>
        have : r ∈ liveOf T O := mem_liveOf.2 ⟨k, by simpa using h1, by simpa using h2⟩
        split
        · exact List.mem_cons_of_mem _ this
        · exact this
theorem liveOf_set : ∀ {T : List Rc} {O : List Int} {k : Nat} {r : Rc}, T.Nodup → O.length = T.length → T[k]? = some r → liveOf T (O.set k 1) = (liveOf T O).filter fun q => decide (q ≠ r)
  | [], _, k, r, _, _, h => by simp at h
  | a :: T, [], k, r, _, h, _ => by simp at h
  | a :: T, o :: O, 0, r, hn, hl, h => by
    simp at h; subst h
    rw [List.nodup_cons] at hn
    have hnot : a ∉ liveOf T O := fun e => hn.1 ((liveOf_sub T O).subset e)
    have hself : (liveOf T O).filter (fun q => decide (q ≠ a)) = liveOf T O := by
      rw [List.filter_eq_self]
      intro q hq
      exact decide_eq_true fun e => hnot (e ▸ hq)
    simp only [List.set_cons_zero, liveOf]
    rw [if_neg (by decide)]
    split
    · rw [List.filter_cons, if_neg (by simp), hself]
    · rw [hself]
  | a :: T, o :: O, k + 1, r, hn, hl, h => by
    rw [List.nodup_cons] at hn
    have h : T[k]? = some r := by simpa using h
    have ih := liveOf_set (O := O) hn.2 (by simpa using hl) h
    have hne : a ≠ r := fun e => hn.1 (e ▸ List.mem_of_getElem? h)
    simp only [List.set_cons_succ, liveOf]
    split
    · rw [List.filter_cons, if_pos (decide_eq_true hne), ih]
    · exact ih
def leaveO (hs hg : Int) : List Rc → List Int → List Int
  | r :: T, o :: O => (if sameH r.hs r.hg hs hg = true then 1 else o) :: leaveO hs hg T O
  | _, _ => []
theorem leaveO_len (hs hg : Int) : ∀ (T : List Rc) (O : List Int), O.length = T.length → (leaveO hs hg T O).length = T.length
  | [], [], _ => rfl
  | a :: T, o :: O, h => by simp [leaveO, leaveO_len hs hg T O (by simpa using h)]
theorem liveOf_leave (hs hg : Int) : ∀ (T : List Rc) (O : List Int), liveOf T (leaveO hs hg T O) = (liveOf T O).filter fun q => !sameH q.hs q.hg hs hg
  | [], _ => by simp [liveOf]
  | a :: T, [] => by simp [liveOf, leaveO]
  | a :: T, o :: O => by
    have ih := liveOf_leave hs hg T O
    simp only [leaveO, liveOf]
    cases hs' : sameH a.hs a.hg hs hg with
    | true =>
      rw [if_pos rfl, if_neg (by decide), ih]
      split
      · rw [List.filter_cons, hs']; simp
      · rfl
    | false =>
      simp only [Bool.false_eq_true, if_false]
      rw [ih]
      split
      · rw [List.filter_cons, hs']; simp
      · rfl
structure Stand (B : Bk) (T : List Rc) (O : List Int) : Prop where
  len : O.length = T.length
  live : B.N.map (·.rc) = liveOf T O
  old : ∀ r ∈ T, ∃ (i : Nat) (g : Int), r.ms = (i : Int) + 1 ∧ B.gens[i]? = some g ∧ r.mg ≤ g
  apart : T.Pairwise fun a b => ¬ (a.ms = b.ms ∧ a.mg = b.mg)
  zo : ∀ o ∈ O, o = 0 ∨ o = 1
  ser : ∀ x ∈ B.N, 0 ≤ x.ser
theorem Stand.nodup {B : Bk} {T : List Rc} {O : List Int} (h : Stand B T O) : T.Nodup := h.apart.imp fun hab e => hab (by rw [e]; exact ⟨rfl, rfl⟩)
theorem pairwise_one {α : Type} {R : α → α → Prop} (hs : ∀ a b, R a b → R b a) : ∀ {l : List α}, l.Pairwise R → ∀ {a b : α}, a ∈ l → b ∈ l → a = b ∨ R a b
  | [], _, a, b, ha, _ => by cases ha
  | x :: l, h, a, b, ha, hb => by
    rw [List.pairwise_cons] at h
    rcases List.mem_cons.1 ha with e | qa
    · subst e
      rcases List.mem_cons.1 hb with e | qb
      · exact .inl e.symm
      · exact .inr (h.1 b qb)
    · rcases List.mem_cons.1 hb with e | qb
      · subst e
        exact .inr (hs _ _ (h.1 a qa))
      · exact pairwise_one hs h.2 qa qb
theorem Stand.same {B : Bk} {T : List Rc} {O : List Int} (h : Stand B T O) {a b : Rc} (ha : a ∈ T) (hb : b ∈ T) (e1 : a.ms = b.ms) (e2 : a.mg = b.mg) : a = b := by
  rcases pairwise_one (fun a b hab e => hab ⟨e.1.symm, e.2.symm⟩) h.apart ha hb with e | e
  · exact e
  · exact absurd ⟨e1, e2⟩ e
theorem Stand.sub {B : Bk} {T : List Rc} {O : List Int} (h : Stand B T O) {x : Nd} (hx : x ∈ B.N) : x.rc ∈ T :=
  (liveOf_sub T O).subset (by rw [← h.live]; exact List.mem_map.2 ⟨x, hx, rfl⟩)
/-- of a wait that is told: it is there just when it is not over -/
theorem Stand.fnd_live {bp : Nat} {B : Bk} {T : List Rc} {O : List Int} (h : Stand B T O) (hk : BookOk bp B) {k : Nat} {r : Rc} (hr : T[k]? = some r) (ho : O[k]? = some 0) : ∃ x, fnd B.N r.ms r.mg = some x ∧ x ∈ B.N ∧ x.rc = r := by
  have : r ∈ B.N.map (·.rc) := by rw [h.live]; exact mem_liveOf.2 ⟨k, hr, ho⟩
  obtain ⟨x, hx, e⟩ := List.mem_map.1 this
  refine ⟨x, ?_, hx, e⟩
  have := fnd_mem hk.ms hx
  rw [e] at this
  exact this
theorem Stand.fnd_over {B : Bk} {T : List Rc} {O : List Int} (h : Stand B T O) {k : Nat} {r : Rc} (hr : T[k]? = some r) (ho : O[k]? = some 1) : fnd B.N r.ms r.mg = none := by
  refine fnd_none fun x hx e1 e2 => ?_
  have hxT := h.sub hx
  have hrT := List.mem_of_getElem? hr
  have e := h.same hxT hrT e1 e2
  have hl : r ∈ liveOf T O := by rw [← h.live, ← e]; exact List.mem_map.2 ⟨x, hx, rfl⟩
  obtain ⟨k', h1, h2⟩ := mem_liveOf.1 hl
  have hkk : k' = k := by
    have hn := h.nodup
    exact (List.getElem?_inj (List.getElem?_eq_some_iff.1 h1).1 hn).1 (h1.trans hr.symm)
  subst hkk
  rw [ho] at h2
  cases h2
end Go.Proofs.Ytgndpodeedjohaa
