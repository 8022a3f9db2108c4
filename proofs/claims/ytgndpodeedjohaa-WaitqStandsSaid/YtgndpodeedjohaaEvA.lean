/-
  An evaluator of closed runs, first part: values whose blocks bear names of our own, memory as seen through a map of names.
-/
import Derived.Test.YtgndpodeedjohaaChecked
import Derived.Laws.AppendOwn
import Derived.Laws.CopyRow
import Derived.Laws.Rows
import Derived.Laws.Entries
import Derived.Below
import Derived.WalkKit
namespace Go.Ev
open Go.RowKit
set_option linter.unusedSimpArgs false
set_option linter.unnecessarySimpa false
set_option linter.unusedVariables false

/-- which block a name stands for, and how many elements it has room for -/
abbrev Mu := Nat → Option (Nat × Nat)
def unk : Nat := 4611686018427387904
def capOf (c k : Nat) : Nat := if Nat.ble unk k then c - (k - unk) else k
def Le (m m' : Mu) : Prop := ∀ i p, m i = some p → m' i = some p
theorem Le.refl (m : Mu) : Le m m := fun _ _ h => h
theorem Le.trans {a b c : Mu} (h : Le a b) (k : Le b c) : Le a c := fun i p e => k i p (h i p e)

def dn0 (m : Mu) : Value → Option Value
  | .pointer (some a) => (m a.block).map fun p => .pointer (some ⟨p.1, a.off, a.spot⟩)
  | .slice (some a) n k => (m a.block).map fun p => .slice (some ⟨p.1, a.off, a.spot⟩) n (capOf p.2 k)
  | .map (some r) => (m r).map fun p => .map (some p.1)
  | .chan (some _) => none
  | .func _ _ _ => none
  | .iface _ _ => none
  | .agg _ => none
  | .tuple _ => none
  | v => some v
def dnL (f : Value → Option Value) : List Value → Option (List Value)
  | [] => some []
  | v :: vs => match f v, dnL f vs with
    | some x, some xs => some (x :: xs)
    | _, _ => none
def dn1 (m : Mu) : Value → Option Value
  | .func fn a c => match dnL (dn0 m) a.toList, dnL (dn0 m) c.toList with
    | some x, some y => some (.func fn x.toArray y.toArray)
    | _, _ => none
  | .iface t v => (dn0 m v).map (.iface t)
  | v => dn0 m v
def dn2 (m : Mu) : Value → Option Value
  | .agg cs => (dnL (dn1 m) cs.toList).map fun l => .agg l.toArray
  | v => dn1 m v
def dn (m : Mu) : Value → Option Value
  | .tuple vs => (dnL (dn2 m) vs.toList).map fun l => .tuple l.toArray
  | v => dn2 m v

theorem dnL_iff {f : Value → Option Value} : ∀ {l l' : List Value}, dnL f l = some l' ↔ l.map f = l'.map some
  | [], l' => by
    simp only [dnL, List.map_nil, Option.some.injEq]
    constructor
    · rintro rfl; rfl
    · intro h; exact (List.map_eq_nil_iff.1 h.symm).symm
  | v :: vs, l' => by
    simp only [dnL, List.map_cons]
    constructor
    · intro h
      split at h
      · rename_i x xs h1 h2
        cases h
        rw [List.map_cons, h1, dnL_iff.1 h2]
      · cases h
    · intro h
      cases l' with
      | nil => cases h
      | cons x xs =>
        rw [List.map_cons] at h
        injection h with h1 h2
        rw [h1, dnL_iff.2 h2]
theorem dnL_length {f : Value → Option Value} {l l' : List Value} (h : dnL f l = some l') : l'.length = l.length := by
  have := congrArg List.length (dnL_iff.1 h)
  simpa using this.symm
theorem dnL_get {f : Value → Option Value} {l l' : List Value} (h : dnL f l = some l') (i : Nat) : (l[i]?).map f = (l'[i]?).map some := by
  rw [← List.getElem?_map, ← List.getElem?_map, dnL_iff.1 h]
theorem dnL_at {f : Value → Option Value} {l l' : List Value} (h : dnL f l = some l') {i : Nat} {v : Value} (hi : l[i]? = some v) : ∃ v', l'[i]? = some v' ∧ f v = some v' := by
  have := dnL_get h i
  rw [hi] at this
  cases hv : l'[i]? with
  | none => rw [hv] at this; cases this
  | some v' => rw [hv] at this; exact ⟨v', rfl, by simpa using this⟩
theorem dnL_at' {f : Value → Option Value} {l l' : List Value} (h : dnL f l = some l') {i : Nat} {v' : Value} (hi : l'[i]? = some v') : ∃ v, l[i]? = some v ∧ f v = some v' := by
  have := dnL_get h i
  rw [hi] at this
  cases hv : l[i]? with
  | none => rw [hv] at this; cases this
  | some v => rw [hv] at this; exact ⟨v, rfl, by simpa using this⟩
theorem dnL_mono {f g : Value → Option Value} (hfg : ∀ v v', f v = some v' → g v = some v') {l l' : List Value} (h : dnL f l = some l') : dnL g l = some l' := by
  induction l generalizing l' with
  | nil => exact h
  | cons v vs ih =>
    simp only [dnL] at h ⊢
    split at h
    · rename_i x xs h1 h2
      rw [hfg _ _ h1, ih h2]; exact h
    · cases h
theorem dnL_append {f : Value → Option Value} {a b a' b' : List Value} (h : dnL f a = some a') (k : dnL f b = some b') : dnL f (a ++ b) = some (a' ++ b') := by
  rw [dnL_iff] at *; rw [List.map_append, List.map_append, h, k]
theorem dnL_take {f : Value → Option Value} {a a' : List Value} (h : dnL f a = some a') (n : Nat) : dnL f (a.take n) = some (a'.take n) := by
  rw [dnL_iff] at *; rw [List.map_take, List.map_take, h]
theorem dnL_drop {f : Value → Option Value} {a a' : List Value} (h : dnL f a = some a') (n : Nat) : dnL f (a.drop n) = some (a'.drop n) := by
  rw [dnL_iff] at *; rw [List.map_drop, List.map_drop, h]
section
variable {m m' : Mu} {v v' : Value}
theorem dn0_mono (hm : Le m m') (h : dn0 m v = some v') : dn0 m' v = some v' := by
  unfold dn0 at *
  split at h
  · rename_i a
    cases hp : m a.block with
    | none => rw [hp] at h; cases h
    | some p => rw [hp] at h; rw [hm _ _ hp]; exact h
  · rename_i a n k
    cases hp : m a.block with
    | none => rw [hp] at h; cases h
    | some p => rw [hp] at h; rw [hm _ _ hp]; exact h
  · rename_i r
    cases hp : m r with
    | none => rw [hp] at h; cases h
    | some p => rw [hp] at h; rw [hm _ _ hp]; exact h
  all_goals first | cases h; done | exact h
theorem dn1_mono (hm : Le m m') (h : dn1 m v = some v') : dn1 m' v = some v' := by
  unfold dn1 at *
  split at h
  · split at h
    · rename_i x y h1 h2
      rw [dnL_mono (fun _ _ => dn0_mono hm) h1, dnL_mono (fun _ _ => dn0_mono hm) h2]; exact h
    · cases h
  · rename_i t u
    cases hu : dn0 m u with
    | none => rw [hu] at h; cases h
    | some u' => rw [hu] at h; rw [dn0_mono hm hu]; exact h
  · exact dn0_mono hm h
theorem dn2_mono (hm : Le m m') (h : dn2 m v = some v') : dn2 m' v = some v' := by
  unfold dn2 at *
  split at h
  · rename_i cs
    cases hu : dnL (dn1 m) cs.toList with
    | none => rw [hu] at h; cases h
    | some u' => rw [hu] at h; rw [dnL_mono (fun _ _ => dn1_mono hm) hu]; exact h
  · exact dn1_mono hm h
theorem dn_mono (hm : Le m m') (h : dn m v = some v') : dn m' v = some v' := by
  unfold dn at *
  split at h
  · rename_i cs
    cases hu : dnL (dn2 m) cs.toList with
    | none => rw [hu] at h; cases h
    | some u' => rw [hu] at h; rw [dnL_mono (fun _ _ => dn2_mono hm) hu]; exact h
  · exact dn2_mono hm h
theorem dn0_one (h : dn0 m v = some v') : v'.oneCell' = true := by
  unfold dn0 at h
  split at h
  · obtain ⟨p, _, rfl⟩ := Option.map_eq_some_iff.1 h; rfl
  · obtain ⟨p, _, rfl⟩ := Option.map_eq_some_iff.1 h; rfl
  · obtain ⟨p, _, rfl⟩ := Option.map_eq_some_iff.1 h; rfl
  · cases h
  · cases h
  · cases h
  · cases h
  · cases h
  · cases h
    cases v <;> first | rfl | (rename_i h1; exact absurd rfl (h1 _)) | (simp_all)
theorem dn1_one (h : dn1 m v = some v') : v'.oneCell' = true := by
  unfold dn1 at h
  split at h
  · split at h
    · cases h; rfl
    · cases h
  · obtain ⟨p, _, rfl⟩ := Option.map_eq_some_iff.1 h; rfl
  · exact dn0_one h
theorem dn2_of_dn1 (h : dn1 m v = some v') : dn2 m v = some v' := by
  unfold dn2
  split
  · simp [dn1, dn0] at h
  · exact h
theorem dn_of_dn2 (h : dn2 m v = some v') : dn m v = some v' := by
  unfold dn
  split
  · simp [dn2, dn1, dn0] at h
  · exact h
theorem dn_of_dn1 (h : dn1 m v = some v') : dn m v = some v' := dn_of_dn2 (dn2_of_dn1 h)
/-- the cells of a value -/
theorem dn2_cells (h : dn2 m v = some v') : dnL (dn1 m) v.cells.toList = some v'.cells.toList := by
  unfold dn2 at h
  split at h
  · obtain ⟨l, hl, rfl⟩ := Option.map_eq_some_iff.1 h
    simpa [Value.cells] using hl
  · have h1 := dn1_one h
    have e : v.cells = #[v] := by
      cases v <;> first | rfl | (rename_i c hc; exact absurd rfl (hc _))
    have e' : v'.cells = #[v'] := by
      cases v' <;> first | rfl | (simp [Value.oneCell'] at h1)
    rw [e, e']
    simp [dnL, h]
end

theorem beq_f {a b : Nat} (h : a ≠ b) : Nat.beq a b = false := by
  rw [← Bool.not_eq_true]
  exact fun e => h (Nat.eq_of_beq_eq_true e)
/-- a table by numbers -/
inductive Tr (α : Type) where
  | leaf
  | node (v : Option α) (l r : Tr α)
def Tr.get {α : Type} : Tr α → Nat → Option α
  | .leaf, _ => none
  | .node v l r, n => if Nat.beq n 0 then v else if Nat.beq (n % 2) 1 then l.get (n / 2) else r.get (n / 2 - 1)
def Tr.set {α : Type} : Nat → Tr α → Nat → α → Tr α
  | 0, t, _, _ => t
  | f + 1, t, n, x =>
    match t with
    | .leaf => if Nat.beq n 0 then .node (some x) .leaf .leaf else if Nat.beq (n % 2) 1 then .node none (Tr.set f .leaf (n / 2) x) .leaf else .node none .leaf (Tr.set f .leaf (n / 2 - 1) x)
    | .node v l r => if Nat.beq n 0 then .node (some x) l r else if Nat.beq (n % 2) 1 then .node v (Tr.set f l (n / 2) x) r else .node v l (Tr.set f r (n / 2 - 1) x)
theorem Tr.get_set {α : Type} (x : α) : ∀ (f : Nat) (t : Tr α) (n k : Nat), n + 1 < 2 ^ f → (Tr.set f t n x).get k = if k = n then some x else t.get k
  | 0, t, n, k, h => by simp at h
  | f + 1, t, n, k, h => by
    rw [Nat.pow_succ] at h
    by_cases n0 : n = 0
    · subst n0
      cases t with
      | leaf => by_cases k0 : k = 0 <;> simp [Tr.set, Tr.get, k0]
      | node v l r => by_cases k0 : k = 0 <;> simp [Tr.set, Tr.get, k0]
    · have b0 : Nat.beq n 0 = false := beq_f n0
      by_cases n1 : n % 2 = 1
      · have b1 : Nat.beq (n % 2) 1 = true := by simpa using n1
        have ih := fun t k => Tr.get_set x f t (n / 2) k (by omega)
        by_cases k0 : k = 0
        · subst k0
          have hn : ¬ 0 = n := fun e => n0 e.symm
          cases t <;> simp [Tr.set, Tr.get, b0, b1, hn]
        · have c0 : Nat.beq k 0 = false := beq_f k0
          by_cases k1 : k % 2 = 1
          · have c1 : Nat.beq (k % 2) 1 = true := by simpa using k1
            have e : (k / 2 = n / 2) = (k = n) := propext ⟨fun e => by omega, fun e => by rw [e]⟩
            cases t <;> simp only [Tr.set, Tr.get, b0, b1, c0, c1, ih, e, if_true, if_false, Bool.false_eq_true]
          · have c1 : Nat.beq (k % 2) 1 = false := beq_f k1
            have hn : ¬ k = n := fun e => k1 (e ▸ n1)
            cases t <;> simp [Tr.set, Tr.get, b0, b1, c0, c1, hn]
      · have b1 : Nat.beq (n % 2) 1 = false := beq_f n1
        have ih := fun t k => Tr.get_set x f t (n / 2 - 1) k (by omega)
        by_cases k0 : k = 0
        · subst k0
          have hn : ¬ 0 = n := fun e => n0 e.symm
          cases t <;> simp [Tr.set, Tr.get, b0, b1, hn]
        · have c0 : Nat.beq k 0 = false := beq_f k0
          by_cases k1 : k % 2 = 1
          · have c1 : Nat.beq (k % 2) 1 = true := by simpa using k1
            have hn : ¬ k = n := fun e => n1 (e ▸ k1)
            cases t <;> simp [Tr.set, Tr.get, b0, b1, c0, c1, hn]
          · have c1 : Nat.beq (k % 2) 1 = false := beq_f k1
            have e : (k / 2 - 1 = n / 2 - 1) = (k = n) := propext ⟨fun e => by omega, fun e => by rw [e]⟩
            cases t <;> simp only [Tr.set, Tr.get, b0, b1, c0, c1, ih, e, if_true, if_false, Bool.false_eq_true]

/-- what stands under a name: a row of cells (own = 0: just these; else a row of elements of that many cells each, with room behind); a map; something nobody may look at any more -/
inductive RO where
  | cells (cs : List Value) (e : TypeId) (own : Nat)
  | map (es : List (Value × Value × Nat)) (clock : Nat)
  | dead
def RO.live : RO → Bool
  | .dead => false
  | _ => true
def Mt (m : Mu) (B id : Nat) (w : World) : RO → Prop
  | .cells cs e own => ∃ p cur cs', m id = some p ∧ B ≤ p.1 ∧ w.heap[p.1]? = some (.cells cur e (0, 0)) ∧ dnL (dn1 m) cs = some cs' ∧
      cur.toList.take cs'.length = cs' ∧ (own = 0 → cur.size = cs'.length) ∧ (own ≠ 0 → cur.size = p.2 * own ∧ p.2 ≤ maxLen)
  | .map es clock => ∃ p es', m id = some p ∧ B ≤ p.1 ∧ w.heap[p.1]? = some (.map es' clock) ∧
      es.map (fun x => (some x.1, dn2 m x.2.1, x.2.2)) = es'.toList.map fun e => (some e.key, some e.val, e.born)
  | .dead => True
structure Vw (m : Mu) (B : Nat) (H : Nat → Option RO) (w : World) : Prop where
  at_ : ∀ id ro, H id = some ro → Mt m B id w ro
  inj : ∀ i j ri rj p q, H i = some ri → H j = some rj → ri.live = true → rj.live = true → m i = some p → m j = some q → p.1 = q.1 → i = j
def upd {α : Type} (H : Nat → α) (k : Nat) (x : α) : Nat → α := fun i => if i = k then x else H i
theorem upd_same {α : Type} (H : Nat → α) (k : Nat) (x : α) : upd H k x k = x := by simp [upd]
theorem upd_ne {α : Type} (H : Nat → α) {k i : Nat} (x : α) (h : i ≠ k) : upd H k x i = H i := by simp [upd, h]
theorem Mt.mono {m m' : Mu} {B id : Nat} {w w' : World} {ro : RO} (hm : Le m m') (h : Mt m B id w ro) (hw : ∀ p, ro.live = true → m id = some p → B ≤ p.1 → w'.heap[p.1]? = w.heap[p.1]?) : Mt m' B id w' ro := by
  cases ro with
  | cells cs e own =>
    obtain ⟨p, cur, cs', h1, h2, h3, h4, h5⟩ := h
    exact ⟨p, cur, cs', hm _ _ h1, h2, (hw p rfl h1 h2).trans h3, dnL_mono (fun _ _ => dn1_mono hm) h4, h5⟩
  | map es clock =>
    obtain ⟨p, es', h1, h2, h3, h4⟩ := h
    refine ⟨p, es', hm _ _ h1, h2, (hw p rfl h1 h2).trans h3, ?_⟩
    apply List.ext_getElem?
    intro i
    have hi := congrArg (·[i]?) h4
    simp only [List.getElem?_map] at hi ⊢
    cases hx : es[i]? with
    | none => rw [hx] at hi; exact hi
    | some x =>
      rw [hx] at hi
      cases hy : es'.toList[i]? with
      | none => rw [hy] at hi; cases hi
      | some y =>
        rw [hy] at hi
        simp only [Option.map_some, Option.some.injEq, Prod.mk.injEq] at hi ⊢
        exact ⟨hi.1, dn2_mono hm hi.2.1, hi.2.2⟩
  | dead => trivial
theorem Mt.lt {m : Mu} {B id : Nat} {w : World} {ro : RO} (h : Mt m B id w ro) (hl : ro.live = true) {p : Nat × Nat} (hp : m id = some p) : B ≤ p.1 ∧ p.1 < w.heap.size := by
  cases ro with
  | cells cs e own =>
    obtain ⟨p', cur, cs', h1, h2, h3, _⟩ := h
    rw [hp] at h1; cases h1
    exact ⟨h2, (Array.getElem?_eq_some_iff.1 h3).1⟩
  | map es clock =>
    obtain ⟨p', es', h1, h2, h3, _⟩ := h
    rw [hp] at h1; cases h1
    exact ⟨h2, (Array.getElem?_eq_some_iff.1 h3).1⟩
  | dead => cases hl
end Go.Ev
