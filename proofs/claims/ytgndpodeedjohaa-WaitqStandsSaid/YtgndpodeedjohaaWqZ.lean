/-
  What a script has told: how it goes on.
-/
import Derived.Test.YtgndpodeedjohaaWqY
namespace Go.Proofs.Ytgndpodeedjohaa
open Go.RowKit Go.Maps
set_option linter.unusedSimpArgs false

theorem grow_get {G : List Int} {i j : Nat} {g : Int} (h : G[j]? = some g) : (grow G i)[j]? = some g := by
  unfold grow
  split
  · exact h
  · rw [List.getElem?_append_left (List.getElem?_eq_some_iff.1 h).1]; exact h
theorem Stand.put {B B' : Bk} {T : List Rc} {O : List Int} (h : Stand B T O) {x : Nd} {i : Nat} {g : Int} (hN : B'.N = B.N ++ [x]) (hms : x.rc.ms = (i : Int) + 1) (hmg : x.rc.mg = g + 1) (hg : (grow B.gens i)[i]? = some g) (hG : B'.gens = (grow B.gens i).set i (g + 1)) (hser : 0 ≤ x.ser) :
    Stand B' (T ++ [x.rc]) (O ++ [0]) ∧ hasN T x.rc.ms x.rc.mg = 0 := by
  have hnew : ∀ r ∈ T, ¬ (r.ms = x.rc.ms ∧ r.mg = x.rc.mg) := fun r hr e => by
    obtain ⟨j, g', h1, h2, h3⟩ := h.old r hr
    have hji : j = i := by omega
    subst hji
    have := grow_get (i := j) h2
    rw [hg] at this
    have := Option.some.inj this
    omega
  refine ⟨⟨?_, ?_, ?_, ?_, ?_, ?_⟩, ?_⟩
  · rw [List.length_append, List.length_append, h.len]; rfl
  · rw [hN, List.map_append, h.live, liveOf_append _ _ _ h.len]; rfl
  · intro r hr
    have hil := (List.getElem?_eq_some_iff.1 hg).1
    rcases List.mem_append.1 hr with hr | hr
    · obtain ⟨j, g', h1, h2, h3⟩ := h.old r hr
      have h4 := grow_get (i := i) h2
      by_cases e : i = j
      · subst e
        rw [hg] at h4
        have := Option.some.inj h4
        exact ⟨i, g + 1, h1, by rw [hG, getElem?_set_same hil], by omega⟩
      · exact ⟨j, g', h1, by rw [hG, getElem?_set_other e]; exact h4, h3⟩
    · rw [List.mem_singleton] at hr; subst hr
      exact ⟨i, g + 1, hms, by rw [hG, getElem?_set_same hil], by omega⟩
  · rw [List.pairwise_append]
    refine ⟨h.apart, by simp, ?_⟩
    intro a ha b hb
    rw [List.mem_singleton] at hb; subst hb
    exact hnew a ha
  · intro o ho
    rcases List.mem_append.1 ho with ho | ho
    · exact h.zo o ho
    · rw [List.mem_singleton] at ho; exact .inl ho
  · intro y hy
    rw [hN] at hy
    rcases List.mem_append.1 hy with hy | hy
    · exact h.ser y hy
    · rw [List.mem_singleton] at hy; subst hy; exact hser
  · unfold hasN
    rw [List.length_eq_zero_iff, List.filter_eq_nil_iff]
    intro r hr e
    exact hnew r hr (sameH_iff.1 e)
theorem map_less {bp : Nat} {B : Bk} (h : BookOk bp B) {x : Nd} (hx : x ∈ B.N) : (less B.N x.blk).map (·.rc) = (B.N.map (·.rc)).filter fun q => decide (q ≠ x.rc) := by
  rw [List.filter_map]
  unfold less
  congr 1
  refine List.filter_congr fun y hy => ?_
  have : y.blk ≠ x.blk ↔ y.rc ≠ x.rc := by
    constructor
    · intro e e2
      have : y = x := nodup_inj h.ms hy hx (by rw [e2])
      exact e (by rw [this])
    · intro e e2
      have : y = x := nodup_inj h.blks hy hx e2
      exact e (by rw [this])
  simp only [Function.comp]
  by_cases e : y.blk ≠ x.blk
  · rw [decide_eq_true e, decide_eq_true (this.1 e)]
  · rw [decide_eq_false e, decide_eq_false (fun q => e (this.2 q))]
theorem zo_set {O : List Int} {k : Nat} (h : ∀ o ∈ O, o = 0 ∨ o = 1) : ∀ o ∈ O.set k 1, o = 0 ∨ o = 1 := fun o ho => by
  rcases List.mem_or_eq_of_mem_set ho with e | e
  · exact h o e
  · exact .inr e
theorem Stand.cut {bp : Nat} {B : Bk} {T : List Rc} {O : List Int} (h : Stand B T O) (hk : BookOk bp B) {k : Nat} {x : Nd} (hx : x ∈ B.N) (hr : T[k]? = some x.rc) : Stand (B.cut x.blk) T (O.set k 1) := by
  refine ⟨by rw [List.length_set]; exact h.len, ?_, h.old, h.apart, zo_set h.zo, ?_⟩
  · change (less B.N x.blk).map _ = _
    rw [map_less hk hx, h.live, liveOf_set h.nodup h.len hr]
  · intro y hy
    exact h.ser y (mem_less.1 hy).1
theorem set_same {O : List Int} {k : Nat} (h : O[k]? = some 1) : O.set k 1 = O := by
  refine List.ext_getElem? fun j => ?_
  by_cases e : k = j
  · subst e; rw [getElem?_set_same (List.getElem?_eq_some_iff.1 h).1, h]
  · rw [getElem?_set_other e]
theorem leaveO_zo (hs hg : Int) : ∀ {T : List Rc} {O : List Int}, (∀ o ∈ O, o = 0 ∨ o = 1) → ∀ o ∈ leaveO hs hg T O, o = 0 ∨ o = 1
  | [], _, _, o, h => by simp [leaveO] at h
  | _ :: _, [], _, o, h => by simp [leaveO] at h
  | a :: T, q :: O, h, o, ho => by
    simp only [leaveO] at ho
    rcases List.mem_cons.1 ho with e | e
    · rw [e]
      split
      · exact .inr rfl
      · exact h q List.mem_cons_self
    · exact leaveO_zo hs hg (fun o ho => h o (List.mem_cons_of_mem _ ho)) o e
theorem Stand.leave {B : Bk} {T : List Rc} {O : List Int} (h : Stand B T O) (hs hg : Int) : Stand (B.left hs hg) T (leaveO hs hg T O) := by
  refine ⟨leaveO_len hs hg T O h.len, ?_, h.old, h.apart, leaveO_zo hs hg h.zo, ?_⟩
  · change (B.N.filter fun x => !sameH x.rc.hs x.rc.hg hs hg).map (·.rc) = _
    rw [liveOf_leave, ← h.live, List.filter_map]; rfl
  · intro y hy
    exact h.ser y (List.mem_filter.1 hy).1
/-- how many of the first j leave -/
def goes (hs hg : Int) (T : List Rc) (O : List Int) (j : Nat) : Nat := ((liveOf (T.take j) (O.take j)).filter fun q => sameH q.hs q.hg hs hg).length
theorem filter_split {α : Type} (p : α → Bool) (l : List α) : (l.filter p).length + (l.filter fun x => !p x).length = l.length := by
  induction l with
  | nil => rfl
  | cons a l ih => cases h : p a <;> simp [List.filter_cons, h] <;> omega
theorem Stand.goes_all {B : Bk} {T : List Rc} {O : List Int} (h : Stand B T O) (hs hg : Int) : ((goes hs hg T O T.length : Nat) : Int) = (B.N.length : Int) - ((B.left hs hg).N.length : Nat) := by
  unfold goes
  rw [List.take_of_length_le (Nat.le_refl _), List.take_of_length_le (by rw [h.len]; exact Nat.le_refl _), ← h.live, List.filter_map, List.length_map]
  have := filter_split (fun x : Nd => sameH x.rc.hs x.rc.hg hs hg) B.N
  change ((B.N.filter fun x => sameH x.rc.hs x.rc.hg hs hg).length : Int) = (B.N.length : Int) - ((B.N.filter fun x => !sameH x.rc.hs x.rc.hg hs hg).length : Nat)
  omega
theorem liveOf_take {T : List Rc} {O : List Int} (hl : O.length = T.length) {j : Nat} {r : Rc} {o : Int} (hr : T[j]? = some r) (ho : O[j]? = some o) : liveOf (T.take (j + 1)) (O.take (j + 1)) = liveOf (T.take j) (O.take j) ++ (if o = 0 then [r] else []) := by
  rw [take_next hr, take_next ho]
  have hlen : ∀ (A : List Rc) (C : List Int), C.length = A.length → liveOf (A ++ [r]) (C ++ [o]) = liveOf A C ++ (if o = 0 then [r] else []) := by
    intro A
    induction A with
    | nil =>
      intro C hC
      have : C = [] := List.length_eq_zero_iff.1 hC
      subst this
      simp [liveOf]
    | cons a A ih =>
      intro C hC
      cases C with
      | nil => simp at hC
      | cons c C =>
        simp only [List.cons_append, liveOf]
        rw [ih C (by simpa using hC)]
        split <;> simp
  exact hlen _ _ (by rw [List.length_take, List.length_take, hl])
theorem goes_step {hs hg : Int} {T : List Rc} {O : List Int} (hl : O.length = T.length) {j : Nat} {r : Rc} {o : Int} (hr : T[j]? = some r) (ho : O[j]? = some o) : goes hs hg T O (j + 1) = goes hs hg T O j + (if sameH r.hs r.hg hs hg = true ∧ o = 0 then 1 else 0) := by
  unfold goes
  rw [liveOf_take hl hr ho, List.filter_append, List.length_append]
  congr 1
  by_cases h1 : o = 0
  · rw [if_pos h1, List.filter_cons]
    cases h2 : sameH r.hs r.hg hs hg <;> simp [h1]
  · rw [if_neg h1, if_neg (fun h => h1 h.2)]; rfl
def leaveTo (hs hg : Int) (T : List Rc) (O : List Int) (j : Nat) : List Int := leaveO hs hg (T.take j) (O.take j) ++ O.drop j
theorem leaveTo_zero (hs hg : Int) (T : List Rc) (O : List Int) : leaveTo hs hg T O 0 = O := by simp [leaveTo, leaveO]
theorem leaveTo_all (hs hg : Int) {T : List Rc} {O : List Int} (hl : O.length = T.length) : leaveTo hs hg T O T.length = leaveO hs hg T O := by
  unfold leaveTo
  rw [List.take_of_length_le (Nat.le_refl _), List.take_of_length_le (by omega), List.drop_of_length_le (by omega), List.append_nil]
theorem leaveTo_len (hs hg : Int) {T : List Rc} {O : List Int} (hl : O.length = T.length) {j : Nat} (hj : j ≤ T.length) : (leaveTo hs hg T O j).length = T.length := by
  unfold leaveTo
  rw [List.length_append, leaveO_len hs hg _ _ (by rw [List.length_take, List.length_take, hl]), List.length_take, List.length_drop]
  omega
theorem leaveTo_at (hs hg : Int) {T : List Rc} {O : List Int} (hl : O.length = T.length) {j : Nat} (hj : j < T.length) : (leaveTo hs hg T O j)[j]? = O[j]? := by
  unfold leaveTo
  have h1 : (leaveO hs hg (T.take j) (O.take j)).length = j := by
    rw [leaveO_len hs hg _ _ (by rw [List.length_take, List.length_take, hl]), List.length_take]; omega
  rw [List.getElem?_append_right (by omega), h1, Nat.sub_self, List.getElem?_drop]; rfl
theorem leaveO_append (hs hg : Int) (r : Rc) (o : Int) : ∀ (A : List Rc) (C : List Int), C.length = A.length → leaveO hs hg (A ++ [r]) (C ++ [o]) = leaveO hs hg A C ++ [if sameH r.hs r.hg hs hg = true then 1 else o]
  | [], [], _ => rfl
  | a :: A, c :: C, h => by simp [leaveO, leaveO_append hs hg r o A C (by simpa using h)]
theorem leaveTo_step {hs hg : Int} {T : List Rc} {O : List Int} (hl : O.length = T.length) {j : Nat} {r : Rc} {o : Int} (hr : T[j]? = some r) (ho : O[j]? = some o) : leaveTo hs hg T O (j + 1) = (leaveTo hs hg T O j).set j (if sameH r.hs r.hg hs hg = true then 1 else o) := by
  have hj := (List.getElem?_eq_some_iff.1 hr).1
  have h1 : (leaveO hs hg (T.take j) (O.take j)).length = j := by
    rw [leaveO_len hs hg _ _ (by rw [List.length_take, List.length_take, hl]), List.length_take]; omega
  unfold leaveTo
  rw [take_next hr, take_next ho, leaveO_append hs hg r o _ _ (by rw [List.length_take, List.length_take, hl])]
  rw [List.set_append_right _ _ (by omega), h1, Nat.sub_self]
  obtain ⟨hjo, hoe⟩ := List.getElem?_eq_some_iff.1 ho
  rw [List.drop_eq_getElem_cons hjo, List.set_cons_zero, List.append_assoc]
  rfl
end Go.Proofs.Ytgndpodeedjohaa
