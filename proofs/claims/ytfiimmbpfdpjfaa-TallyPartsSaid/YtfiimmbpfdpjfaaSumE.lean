/-
  Names in order, in plain Lean; the document's Groups.
-/
import Derived.Test.YtfiimmbpfdpjfaaSumD
import Derived.Deep.Cut
import Derived.Sort.Walk0
import Derived.Deep.CutRange
namespace Go.Proofs.Ytfiimmbpfdpjfaa
open Go.RowKit
set_option linter.unusedSimpArgs false

/-- ahead, as strings stand -/
def ltS (a b : ByteArray) : Bool := Op.bytesLess a.toList b.toList
/-- what is said of each name's -/
def groupsL (ss : List St) (ns : List ByteArray) : List Sm := ns.map fun nm => sumS (named nm ss) nm (byV (sumV (valuesV (named nm ss) 1)) (sumV (valuesV ss 1)))
theorem groupsL_len (ss : List St) (ns : List ByteArray) : (groupsL ss ns).length = ns.length := by simp [groupsL]
def sms : List Sm → List Value
  | [] => []
  | s :: l => s.cells ++ sms l
theorem smCells_len (s : Sm) : s.cells.length = 7 := rfl
theorem sms_len (l : List Sm) : (sms l).length = l.length * 7 := by
  induction l with
  | nil => rfl
  | cons s l ih => simp only [sms, List.length_append, List.length_cons, ih, smCells_len]; omega
theorem sms_append (a b : List Sm) : sms (a ++ b) = sms a ++ sms b := by
  induction a with
  | nil => rfl
  | cons s a ih => simp only [List.cons_append, sms, ih, List.append_assoc]
theorem sms_get : ∀ (l : List Sm) (i q : Nat) (s : Sm), l[i]? = some s → q < 7 → (sms l)[i * 7 + q]? = s.cells[q]?
  | [], i, q, s, h, _ => by simp at h
  | x :: l, 0, q, s, h, hq => by
    simp at h; subst h
    rw [sms, Nat.zero_mul, Nat.zero_add, List.getElem?_append_left (by rw [smCells_len]; exact hq)]
  | x :: l, i + 1, q, s, h, hq => by
    rw [sms, List.getElem?_append_right (by rw [smCells_len]; omega), smCells_len, show (i + 1) * 7 + q - 7 = i * 7 + q by omega]
    exact sms_get l i q s h hq
/-- the laws of the order of strings -/
structure Ord : Prop where
  irr : ∀ a, ltS a a = false
  tr : ∀ a b c, ltS a b = true → ltS b c = true → ltS a c = true
  tot : ∀ a b, ltS a b = false → ltS b a = false → a = b
theorem ltS_eq (a b : ByteArray) : ltS a b = decide (a.toList < b.toList) := bytesLess_eq _ _
theorem ltS_ord : Ord := by
  refine ⟨fun a => ?_, fun a b c h k => ?_, fun a b h k => ?_⟩
  · rw [ltS_eq]; exact decide_eq_false (List.lt_irrefl _)
  · rw [ltS_eq] at *; exact decide_eq_true (List.lt_trans (of_decide_eq_true h) (of_decide_eq_true k))
  · rw [ltS_eq] at h k
    have e := List.le_antisymm (List.not_lt.1 (of_decide_eq_false k)) (List.not_lt.1 (of_decide_eq_false h))
    have q := toList_beq a b
    rw [e, beq_self_eq_true] at q
    exact of_decide_eq_true q.symm
/-- names, each once, in order -/
structure Names (ss : List St) (ns : List ByteArray) : Prop where
  up : ns.Pairwise fun a b => ltS a b = true
  mem : ∀ x, x ∈ ns ↔ ∃ s ∈ ss, s.fn = x
theorem up_same : ∀ {a b : List ByteArray}, a.Pairwise (fun x y => ltS x y = true) → b.Pairwise (fun x y => ltS x y = true) → (∀ x, x ∈ a ↔ x ∈ b) → a = b
  | [], [], _, _, _ => rfl
  | [], y :: b, _, _, h => by have := (h y).2 (by simp); cases this
  | x :: a, [], _, _, h => by have := (h x).1 (by simp); cases this
  | x :: a, y :: b, ha, hb, h => by
    rw [List.pairwise_cons] at ha hb
    have hxy : x = y := by
      rcases List.mem_cons.1 ((h x).1 (by simp)) with e | e
      · exact e
      · rcases List.mem_cons.1 ((h y).2 (by simp)) with e2 | e2
        · exact e2.symm
        · have h1 := hb.1 x e
          have h2 := ha.1 y e2
          have := ltS_ord.tr _ _ _ h1 h2
          rw [ltS_ord.irr] at this
          cases this
    subst hxy
    have : a = b := up_same ha.2 hb.2 fun z => by
      constructor
      · intro hz
        rcases List.mem_cons.1 ((h z).1 (by simp [hz])) with e | e
        · subst e
          have := ha.1 z hz
          rw [ltS_ord.irr] at this
          cases this
        · exact e
      · intro hz
        rcases List.mem_cons.1 ((h z).2 (by simp [hz])) with e | e
        · subst e
          have := hb.1 z hz
          rw [ltS_ord.irr] at this
          cases this
        · exact e
    rw [this]
theorem Names.same {ss : List St} {a b : List ByteArray} (ha : Names ss a) (hb : Names ss b) : a = b := up_same ha.up hb.up fun x => (ha.mem x).trans (hb.mem x).symm
/-- how the document asks whether a name is above the last one -/
theorem gtr_ltS (a b : ByteArray) : (!(Op.bytesLess a.toList b.toList || a.toList == b.toList)) = ltS b a := by
  show (!(ltS a b || a.toList == b.toList)) = ltS b a
  rw [toList_beq]
  cases h1 : ltS a b with
  | true =>
    cases h2 : ltS b a with
    | false => rfl
    | true => have := ltS_ord.tr _ _ _ h1 h2; rw [ltS_ord.irr] at this; cases this
  | false =>
    by_cases e : a = b
    · subst e; rw [ltS_ord.irr]; simp
    · rw [decide_eq_false e]
      cases h2 : ltS b a with
      | true => rfl
      | false => exact absurd (ltS_ord.tot _ _ h1 h2) e
def inB (done : List ByteArray) (x : ByteArray) : Bool := done.any fun d => decide (d = x)
theorem inB_iff {done : List ByteArray} {x : ByteArray} : inB done x = true ↔ x ∈ done := by
  unfold inB
  rw [List.any_eq_true]
  constructor
  · rintro ⟨d, h1, h2⟩
    rw [← of_decide_eq_true h2]; exact h1
  · intro h
    exact ⟨x, h, decide_eq_true rfl⟩
/-- how many bear a name that was not told -/
def away (done : List ByteArray) : List St → Nat
  | [] => 0
  | s :: l => (if inB done s.fn = true then 0 else 1) + away done l
theorem away_le (done : List ByteArray) : ∀ l : List St, away done l ≤ l.length
  | [] => Nat.le_refl _
  | s :: l => by have := away_le done l; simp only [away, List.length_cons]; split <;> omega
theorem away_mono (done : List ByteArray) (x : ByteArray) : ∀ l : List St, away (done ++ [x]) l ≤ away done l
  | [] => Nat.le_refl _
  | s :: l => by
    have := away_mono done x l
    simp only [away]
    by_cases c : inB done s.fn = true
    · rw [if_pos c, if_pos (inB_iff.2 (List.mem_append_left _ (inB_iff.1 c)))]; omega
    · rw [if_neg c]; split <;> omega
theorem away_less (done : List ByteArray) {s : St} (hn : s.fn ∉ done) : ∀ {l : List St}, s ∈ l → away (done ++ [s.fn]) l + 1 ≤ away done l
  | t :: l, h => by
    simp only [away]
    rcases List.mem_cons.1 h with e | e
    · subst e
      have := away_mono done s.fn l
      rw [if_neg (fun h => hn (inB_iff.1 h)), if_pos (inB_iff.2 (by simp))]; omega
    · have := away_less done hn e
      by_cases c : inB done t.fn = true
      · rw [if_pos c, if_pos (inB_iff.2 (List.mem_append_left _ (inB_iff.1 c)))]; omega
      · rw [if_neg c]; split <;> omega
/-- names that were told already, in order; the others are above them -/
structure Done (ss : List St) (done : List ByteArray) : Prop where
  up : done.Pairwise fun a b => ltS a b = true
  mem : ∀ d ∈ done, ∃ s ∈ ss, s.fn = d
  rest : ∀ s ∈ ss, s.fn ∈ done ∨ ∀ d ∈ done, ltS d s.fn = true
  few : away done ss + done.length ≤ ss.length
theorem Done.nil (ss : List St) : Done ss [] := ⟨List.Pairwise.nil, fun d h => (by cases h), fun s _ => .inr fun d h => (by cases h), by have := away_le [] ss; simpa using this⟩
/-- is a name above all that were told? -/
def abv (done : List ByteArray) (f : ByteArray) : Bool := match done.getLast? with
  | none => true
  | some d => ltS d f
theorem last_top : ∀ {done : List ByteArray} {d x : ByteArray}, done.Pairwise (fun a b => ltS a b = true) → done.getLast? = some d → x ∈ done → x = d ∨ ltS x d = true
  | [], d, x, _, h, _ => by cases h
  | [a], d, x, _, h, hx => by
    simp at h hx
    exact .inl (hx.trans h)
  | a :: b :: r, d, x, hp, h, hx => by
    rw [List.pairwise_cons] at hp
    have h2 : (b :: r).getLast? = some d := by rw [← h]; rfl
    rcases List.mem_cons.1 hx with e | e
    · subst e
      exact .inr (hp.1 d (List.mem_of_getLast? h2))
    · exact last_top hp.2 h2 e
theorem abv_iff {ss : List St} {done : List ByteArray} (h : Done ss done) (f : ByteArray) : abv done f = true ↔ ∀ d ∈ done, ltS d f = true := by
  unfold abv
  cases hl : done.getLast? with
  | none =>
    have : done = [] := List.getLast?_eq_none_iff.1 hl
    subst this
    simp
  | some d =>
    constructor
    · intro h1 x hx
      rcases last_top h.up hl hx with e | e
      · subst e; exact h1
      · exact ltS_ord.tr _ _ _ e h1
    · intro h1
      exact h1 d (List.mem_of_getLast? hl)
theorem Done.next {ss : List St} {done : List ByteArray} (h : Done ss done) {s : St} (hs : s ∈ ss) (ha : abv done s.fn = true) (hmin : ∀ t ∈ ss, abv done t.fn = true → ltS t.fn s.fn = false) : Done ss (done ++ [s.fn]) := by
  have ha' := (abv_iff h s.fn).1 ha
  have hnot : s.fn ∉ done := fun hm => by have := ha' _ hm; rw [ltS_ord.irr] at this; cases this
  refine ⟨?_, fun d hd => ?_, fun t ht => ?_, ?_⟩
  · rw [List.pairwise_append]
    exact ⟨h.up, by simp, fun a ha b hb => by rw [List.mem_singleton.1 hb]; exact ha' a ha⟩
  · rcases List.mem_append.1 hd with e | e
    · exact h.mem d e
    · exact ⟨s, hs, (List.mem_singleton.1 e).symm⟩
  · rcases h.rest t ht with e | e
    · exact .inl (by simp [e])
    · by_cases q : t.fn = s.fn
      · exact .inl (by simp [q])
      · refine .inr fun d hd => ?_
        rcases List.mem_append.1 hd with e2 | e2
        · exact e d e2
        · rw [List.mem_singleton.1 e2]
          have := hmin t ht ((abv_iff h t.fn).2 e)
          cases hc : ltS s.fn t.fn with
          | true => rfl
          | false => exact absurd (ltS_ord.tot _ _ this hc) q
  · have h1 := h.few
    have := away_less done hnot hs
    rw [List.length_append, List.length_singleton]
    omega
theorem Done.all {ss : List St} {done : List ByteArray} (h : Done ss done) (hno : ∀ t ∈ ss, abv done t.fn = false) : Names ss done := by
  refine ⟨h.up, fun x => ⟨fun hx => h.mem x hx, fun ⟨s, hs, e⟩ => ?_⟩⟩
  subst e
  rcases h.rest s hs with e | e
  · exact e
  · have := hno s hs
    rw [(abv_iff h s.fn).2 e] at this
    cases this
end Go.Proofs.Ytfiimmbpfdpjfaa
