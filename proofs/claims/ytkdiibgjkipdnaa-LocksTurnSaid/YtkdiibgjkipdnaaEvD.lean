/-
  An evaluator of closed runs, fourth part: more operations.
-/
import Derived.Test.YtkdiibgjkipdnaaChecked
import Derived.Laws.AppendOwn
import Derived.Laws.CopyRow
import Derived.Laws.Rows
import Derived.Laws.Entries
import Derived.Below
import Derived.WalkKit
import Derived.ChangeKeysEq
namespace Go.Ev
open Go.RowKit
set_option linter.unusedSimpArgs false
set_option linter.unnecessarySimpa false
set_option linter.unusedVariables false

/-- which block a name stands for, and how many elements it has room for -/
abbrev Mu := Nat → Option (Nat × Nat)
def unk : Nat := 4611686018427387904
def capOf (c k : Nat) : Nat := if Nat.ble unk k then c - (k - unk) else k
def Le (m m' : Mu) : Prop := ∀ i p, m i = some p → m' i = some p
theorem Le.refl (m : Mu) : Le m m := fun _ _ h => h
theorem Le.trans {a b c : Mu} (h : Le a b) (k : Le b c) : Le a c := fun i p e => k i p (h i p e)

def dn0 (m : Mu) : Value → Option Value
  | .pointer (some a) => (m a.block).map fun p => .pointer (some ⟨p.1, a.off, a.spot⟩)
  | .slice (some a) n k => (m a.block).map fun p => .slice (some ⟨p.1, a.off, a.spot⟩) n (capOf p.2 k)
  | .map (some r) => (m r).map fun p => .map (some p.1)
  | .chan (some _) => none
  | .func _ _ _ => none
  | .iface _ _ => none
  | .agg _ => none
  | .tuple _ => none
  | v => some v
def dnL (f : Value → Option Value) : List Value → Option (List Value)
  | [] => some []
  | v :: vs => match f v, dnL f vs with
    | some x, some xs => some (x :: xs)
    | _, _ => none
def dn1 (m : Mu) : Value → Option Value
  | .func fn a c => match dnL (dn0 m) a.toList, dnL (dn0 m) c.toList with
    | some x, some y => some (.func fn x.toArray y.toArray)
    | _, _ => none
  | .iface t v => (dn0 m v).map (.iface t)
  | v => dn0 m v
def dn2 (m : Mu) : Value → Option Value
  | .agg cs => (dnL (dn1 m) cs.toList).map fun l => .agg l.toArray
  | v => dn1 m v
def dn (m : Mu) : Value → Option Value
  | .tuple vs => (dnL (dn2 m) vs.toList).map fun l => .tuple l.toArray
  | v => dn2 m v

theorem dnL_iff {f : Value → Option Value} : ∀ {l l' : List Value}, dnL f l = some l' ↔ l.map f = l'.map some
  | [], l' => by
    simp only [dnL, List.map_nil, Option.some.injEq]
    constructor
    · rintro rfl; rfl
    · intro h; exact (List.map_eq_nil_iff.1 h.symm).symm
  | v :: vs, l' => by
    simp only [dnL, List.map_cons]
    constructor
    · intro h
      split at h
      · rename_i x xs h1 h2
        cases h
        rw [List.map_cons, h1, dnL_iff.1 h2]
      · cases h
    · intro h
      cases l' with
      | nil => cases h
      | cons x xs =>
        rw [List.map_cons] at h
        injection h with h1 h2
        rw [h1, dnL_iff.2 h2]
theorem dnL_length {f : Value → Option Value} {l l' : List Value} (h : dnL f l = some l') : l'.length = l.length := by
  have := congrArg List.length (dnL_iff.1 h)
  simpa using this.symm
theorem dnL_get {f : Value → Option Value} {l l' : List Value} (h : dnL f l = some l') (i : Nat) : (l[i]?).map f = (l'[i]?).map some := by
  rw [← List.getElem?_map, ← List.getElem?_map, dnL_iff.1 h]
theorem dnL_at {f : Value → Option Value} {l l' : List Value} (h : dnL f l = some l') {i : Nat} {v : Value} (hi : l[i]? = some v) : ∃ v', l'[i]? = some v' ∧ f v = some v' := by
  have := dnL_get h i
  rw [hi] at this
  cases hv : l'[i]? with
  | none => rw [hv] at this; cases this
  | some v' => rw [hv] at this; exact ⟨v', rfl, by simpa using this⟩
theorem dnL_at' {f : Value → Option Value} {l l' : List Value} (h : dnL f l = some l') {i : Nat} {v' : Value} (hi : l'[i]? = some v') : ∃ v, l[i]? = some v ∧ f v = some v' := by
  have := dnL_get h i
  rw [hi] at this
  cases hv : l[i]? with
  | none => rw [hv] at this; cases this
  | some v => rw [hv] at this; exact ⟨v, rfl, by simpa using this⟩
theorem dnL_mono {f g : Value → Option Value} (hfg : ∀ v v', f v = some v' → g v = some v') {l l' : List Value} (h : dnL f l = some l') : dnL g l = some l' := by
  induction l generalizing l' with
  | nil => exact h
  | cons v vs ih =>
    simp only [dnL] at h ⊢
    split at h
    · rename_i x xs h1 h2
      rw [hfg _ _ h1, ih h2]; exact h
    · cases h
theorem dnL_append {f : Value → Option Value} {a b a' b' : List Value} (h : dnL f a = some a') (k : dnL f b = some b') : dnL f (a ++ b) = some (a' ++ b') := by
  rw [dnL_iff] at *; rw [List.map_append, List.map_append, h, k]
theorem dnL_take {f : Value → Option Value} {a a' : List Value} (h : dnL f a = some a') (n : Nat) : dnL f (a.take n) = some (a'.take n) := by
  rw [dnL_iff] at *; rw [List.map_take, List.map_take, h]
theorem dnL_drop {f : Value → Option Value} {a a' : List Value} (h : dnL f a = some a') (n : Nat) : dnL f (a.drop n) = some (a'.drop n) := by
  rw [dnL_iff] at *; rw [List.map_drop, List.map_drop, h]
section
variable {m m' : Mu} {v v' : Value}
theorem dn0_mono (hm : Le m m') (h : dn0 m v = some v') : dn0 m' v = some v' := by
  unfold dn0 at *
  split at h
  · rename_i a
    cases hp : m a.block with
    | none => rw [hp] at h; cases h
    | some p => rw [hp] at h; rw [hm _ _ hp]; exact h
  · rename_i a n k
    cases hp : m a.block with
    | none => rw [hp] at h; cases h
    | some p => rw [hp] at h; rw [hm _ _ hp]; exact h
  · rename_i r
    cases hp : m r with
    | none => rw [hp] at h; cases h
    | some p => rw [hp] at h; rw [hm _ _ hp]; exact h
  all_goals first | cases h; done | exact h
theorem dn1_mono (hm : Le m m') (h : dn1 m v = some v') : dn1 m' v = some v' := by
  unfold dn1 at *
  split at h
  · split at h
    · rename_i x y h1 h2
      rw [dnL_mono (fun _ _ => dn0_mono hm) h1, dnL_mono (fun _ _ => dn0_mono hm) h2]; exact h
    · cases h
  · rename_i t u
    cases hu : dn0 m u with
    | none => rw [hu] at h; cases h
    | some u' => rw [hu] at h; rw [dn0_mono hm hu]; exact h
  · exact dn0_mono hm h
theorem dn2_mono (hm : Le m m') (h : dn2 m v = some v') : dn2 m' v = some v' := by
  unfold dn2 at *
  split at h
  · rename_i cs
    cases hu : dnL (dn1 m) cs.toList with
    | none => rw [hu] at h; cases h
    | some u' => rw [hu] at h; rw [dnL_mono (fun _ _ => dn1_mono hm) hu]; exact h
  · exact dn1_mono hm h
theorem dn_mono (hm : Le m m') (h : dn m v = some v') : dn m' v = some v' := by
  unfold dn at *
  split at h
  · rename_i cs
    cases hu : dnL (dn2 m) cs.toList with
    | none => rw [hu] at h; cases h
    | some u' => rw [hu] at h; rw [dnL_mono (fun _ _ => dn2_mono hm) hu]; exact h
  · exact dn2_mono hm h
theorem dn0_one (h : dn0 m v = some v') : v'.oneCell' = true := by
  unfold dn0 at h
  split at h
  · obtain ⟨p, _, rfl⟩ := Option.map_eq_some_iff.1 h; rfl
  · obtain ⟨p, _, rfl⟩ := Option.map_eq_some_iff.1 h; rfl
  · obtain ⟨p, _, rfl⟩ := Option.map_eq_some_iff.1 h; rfl
  · cases h
  · cases h
  · cases h
  · cases h
  · cases h
  · cases h
    cases v <;> first | rfl | (rename_i h1; exact absurd rfl (h1 _)) | (simp_all)
theorem dn1_one (h : dn1 m v = some v') : v'.oneCell' = true := by
  unfold dn1 at h
  split at h
  · split at h
    · cases h; rfl
    · cases h
  · obtain ⟨p, _, rfl⟩ := Option.map_eq_some_iff.1 h; rfl
  · exact dn0_one h
theorem dn2_of_dn1 (h : dn1 m v = some v') : dn2 m v = some v' := by
  unfold dn2
  split
  · simp [dn1, dn0] at h
  · exact h
theorem dn_of_dn2 (h : dn2 m v = some v') : dn m v = some v' := by
  unfold dn
  split
  · simp [dn2, dn1, dn0] at h
  · exact h
theorem dn_of_dn1 (h : dn1 m v = some v') : dn m v = some v' := dn_of_dn2 (dn2_of_dn1 h)
/-- the cells of a value -/
theorem dn2_cells (h : dn2 m v = some v') : dnL (dn1 m) v.cells.toList = some v'.cells.toList := by
  unfold dn2 at h
  split at h
  · obtain ⟨l, hl, rfl⟩ := Option.map_eq_some_iff.1 h
    simpa [Value.cells] using hl
  · have h1 := dn1_one h
    have e : v.cells = #[v] := by
      cases v <;> first | rfl | (rename_i c hc; exact absurd rfl (hc _))
    have e' : v'.cells = #[v'] := by
      cases v' <;> first | rfl | (simp [Value.oneCell'] at h1)
    rw [e, e']
    simp [dnL, h]
end

theorem beq_f {a b : Nat} (h : a ≠ b) : Nat.beq a b = false := by
  rw [← Bool.not_eq_true]
  exact fun e => h (Nat.eq_of_beq_eq_true e)
/-- a table by numbers -/
inductive Tr (α : Type) where
  | leaf
  | node (v : Option α) (l r : Tr α)
def Tr.get {α : Type} : Tr α → Nat → Option α
  | .leaf, _ => none
  | .node v l r, n => if Nat.beq n 0 then v else if Nat.beq (n % 2) 1 then l.get (n / 2) else r.get (n / 2 - 1)
def Tr.set {α : Type} : Nat → Tr α → Nat → α → Tr α
  | 0, t, _, _ => t
  | f + 1, t, n, x =>
    match t with
    | .leaf => if Nat.beq n 0 then .node (some x) .leaf .leaf else if Nat.beq (n % 2) 1 then .node none (Tr.set f .leaf (n / 2) x) .leaf else .node none .leaf (Tr.set f .leaf (n / 2 - 1) x)
    | .node v l r => if Nat.beq n 0 then .node (some x) l r else if Nat.beq (n % 2) 1 then .node v (Tr.set f l (n / 2) x) r else .node v l (Tr.set f r (n / 2 - 1) x)
theorem Tr.get_set {α : Type} (x : α) : ∀ (f : Nat) (t : Tr α) (n k : Nat), n + 1 < 2 ^ f → (Tr.set f t n x).get k = if k = n then some x else t.get k
  | 0, t, n, k, h => by simp at h
  | f + 1, t, n, k, h => by
    rw [Nat.pow_succ] at h
    by_cases n0 : n = 0
    · subst n0
      cases t with
      | leaf => by_cases k0 : k = 0 <;> simp [Tr.set, Tr.get, k0]
      | node v l r => by_cases k0 : k = 0 <;> simp [Tr.set, Tr.get, k0]
    · have b0 : Nat.beq n 0 = false := beq_f n0
      by_cases n1 : n % 2 = 1
      · have b1 : Nat.beq (n % 2) 1 = true := by simpa using n1
        have ih := fun t k => Tr.get_set x f t (n / 2) k (by omega)
        by_cases k0 : k = 0
        · subst k0
          have hn : ¬ 0 = n := fun e => n0 e.symm
          cases t <;> simp [Tr.set, Tr.get, b0, b1, hn]
        · have c0 : Nat.beq k 0 = false := beq_f k0
          by_cases k1 : k % 2 = 1
          · have c1 : Nat.beq (k % 2) 1 = true := by simpa using k1
            have e : (k / 2 = n / 2) = (k = n) := propext ⟨fun e => by omega, fun e => by rw [e]⟩
            cases t <;> simp only [Tr.set, Tr.get, b0, b1, c0, c1, ih, e, if_true, if_false, Bool.false_eq_true]
          · have c1 : Nat.beq (k % 2) 1 = false := beq_f k1
            have hn : ¬ k = n := fun e => k1 (e ▸ n1)
            cases t <;> simp [Tr.set, Tr.get, b0, b1, c0, c1, hn]
      · have b1 : Nat.beq (n % 2) 1 = false := beq_f n1
        have ih := fun t k => Tr.get_set x f t (n / 2 - 1) k (by omega)
        by_cases k0 : k = 0
        · subst k0
          have hn : ¬ 0 = n := fun e => n0 e.symm
          cases t <;> simp [Tr.set, Tr.get, b0, b1, hn]
        · have c0 : Nat.beq k 0 = false := beq_f k0
          by_cases k1 : k % 2 = 1
          · have c1 : Nat.beq (k % 2) 1 = true := by simpa using k1
            have hn : ¬ k = n := fun e => n1 (e ▸ k1)
            cases t <;> simp [Tr.set, Tr.get, b0, b1, c0, c1, hn]
          · have c1 : Nat.beq (k % 2) 1 = false := beq_f k1
            have e : (k / 2 - 1 = n / 2 - 1) = (k = n) := propext ⟨fun e => by omega, fun e => by rw [e]⟩
            cases t <;> simp only [Tr.set, Tr.get, b0, b1, c0, c1, ih, e, if_true, if_false, Bool.false_eq_true]

/-- what stands under a name: a row of cells (own = 0: just these; else a row of elements of that many cells each, with room behind); a map; something nobody may look at any more -/
inductive RO where
  | cells (cs : List Value) (e : TypeId) (own : Nat)
  | map (es : List (Value × Value × Nat)) (clock : Nat)
  | dead
def RO.live : RO → Bool
  | .dead => false
  | _ => true
def Mt (m : Mu) (B id : Nat) (w : World) : RO → Prop
  | .cells cs e own => ∃ p cur cs', m id = some p ∧ B ≤ p.1 ∧ w.heap[p.1]? = some (.cells cur e (0, 0)) ∧ dnL (dn1 m) cs = some cs' ∧
      cur.toList.take cs'.length = cs' ∧ (own = 0 → cur.size = cs'.length) ∧ (own ≠ 0 → cur.size = p.2 * own ∧ p.2 ≤ maxLen)
  | .map es clock => ∃ p es', m id = some p ∧ B ≤ p.1 ∧ w.heap[p.1]? = some (.map es' clock) ∧
      es.map (fun x => (some x.1, dn2 m x.2.1, x.2.2)) = es'.toList.map fun e => (some e.key, some e.val, e.born)
  | .dead => True
structure Vw (m : Mu) (B : Nat) (H : Nat → Option RO) (w : World) : Prop where
  at_ : ∀ id ro, H id = some ro → Mt m B id w ro
  inj : ∀ i j ri rj p q, H i = some ri → H j = some rj → ri.live = true → rj.live = true → m i = some p → m j = some q → p.1 = q.1 → i = j
def upd {α : Type} (H : Nat → α) (k : Nat) (x : α) : Nat → α := fun i => if i = k then x else H i
theorem upd_same {α : Type} (H : Nat → α) (k : Nat) (x : α) : upd H k x k = x := by simp [upd]
theorem upd_ne {α : Type} (H : Nat → α) {k i : Nat} (x : α) (h : i ≠ k) : upd H k x i = H i := by simp [upd, h]
theorem Mt.mono {m m' : Mu} {B id : Nat} {w w' : World} {ro : RO} (hm : Le m m') (h : Mt m B id w ro) (hw : ∀ p, ro.live = true → m id = some p → B ≤ p.1 → w'.heap[p.1]? = w.heap[p.1]?) : Mt m' B id w' ro := by
  cases ro with
  | cells cs e own =>
    obtain ⟨p, cur, cs', h1, h2, h3, h4, h5⟩ := h
    exact ⟨p, cur, cs', hm _ _ h1, h2, (hw p rfl h1 h2).trans h3, dnL_mono (fun _ _ => dn1_mono hm) h4, h5⟩
  | map es clock =>
    obtain ⟨p, es', h1, h2, h3, h4⟩ := h
    refine ⟨p, es', hm _ _ h1, h2, (hw p rfl h1 h2).trans h3, ?_⟩
    apply List.ext_getElem?
    intro i
    have hi := congrArg (·[i]?) h4
    simp only [List.getElem?_map] at hi ⊢
    cases hx : es[i]? with
    | none => rw [hx] at hi; exact hi
    | some x =>
      rw [hx] at hi
      cases hy : es'.toList[i]? with
      | none => rw [hy] at hi; cases hi
      | some y =>
        rw [hy] at hi
        simp only [Option.map_some, Option.some.injEq, Prod.mk.injEq] at hi ⊢
        exact ⟨hi.1, dn2_mono hm hi.2.1, hi.2.2⟩
  | dead => trivial
theorem Mt.lt {m : Mu} {B id : Nat} {w : World} {ro : RO} (h : Mt m B id w ro) (hl : ro.live = true) {p : Nat × Nat} (hp : m id = some p) : B ≤ p.1 ∧ p.1 < w.heap.size := by
  cases ro with
  | cells cs e own =>
    obtain ⟨p', cur, cs', h1, h2, h3, _⟩ := h
    rw [hp] at h1; cases h1
    exact ⟨h2, (Array.getElem?_eq_some_iff.1 h3).1⟩
  | map es clock =>
    obtain ⟨p', es', h1, h2, h3, _⟩ := h
    rw [hp] at h1; cases h1
    exact ⟨h2, (Array.getElem?_eq_some_iff.1 h3).1⟩
  | dead => cases hl
end Go.Ev
namespace Go.Ev
open Go.RowKit
set_option linter.unusedSimpArgs false
set_option linter.unnecessarySimpa false
set_option linter.unusedVariables false

structure St where
  hp : Tr RO
  nx : Nat
  ac : Nat
  wr : Nat
def top : Nat := 1000000
def St.look (s : St) (id : Nat) : Option (RO × St) :=
  if Nat.blt id s.nx then (s.hp.get id).map fun o => (o, { s with ac := s.ac ||| 2 ^ id }) else none
def St.put (s : St) (id : Nat) (ro : RO) : Option St :=
  if Nat.blt id s.nx && Nat.blt s.nx top then some { hp := Tr.set 40 s.hp id ro, nx := s.nx, ac := s.ac ||| 2 ^ id, wr := s.wr ||| 2 ^ id } else none
def St.new (s : St) (ro : RO) : Option St :=
  if Nat.blt s.nx top then some { hp := Tr.set 40 s.hp s.nx ro, nx := s.nx + 1, ac := s.ac, wr := s.wr } else none

structure Inv (FP : Nat → Prop) (n0 hi B : Nat) (m : Mu) (s : St) (H : Nat → Option RO) (w : World) : Prop where
  vw : Vw m B H w
  cp : ∀ id, id < hi → (FP id ∨ n0 ≤ id) → s.hp.get id = H id
  fr : ∀ id, s.nx ≤ id → id < hi → m id = none ∧ H id = none
  lo : n0 ≤ s.nx
  base : B ≤ w.heap.size
structure Ste (B : Nat) (m : Mu) (s : St) (H : Nat → Option RO) (w : World) (m' : Mu) (s' : St) (H' : Nat → Option RO) (w' : World) : Prop where
  ext : Le m m'
  only : ∀ i, (i < s.nx ∨ s'.nx ≤ i) → m' i = m i
  keep : ∀ i, (i < s.nx ∨ s'.nx ≤ i) → s'.wr.testBit i = false → H' i = H i
  bel : Below B w w'
  nx : s.nx ≤ s'.nx
  ac : ∀ i, s.ac.testBit i = true → s'.ac.testBit i = true
  wr : ∀ i, s.wr.testBit i = true → s'.wr.testBit i = true
  wa : (∀ i, s.wr.testBit i = true → s.ac.testBit i = true) → ∀ i, s'.wr.testBit i = true → s'.ac.testBit i = true
theorem Ste.refl (B : Nat) (m : Mu) (s : St) (H : Nat → Option RO) (w : World) : Ste B m s H w m s H w :=
  ⟨Le.refl m, fun _ _ => rfl, fun _ _ _ => rfl, Below.refl _ _, Nat.le_refl _, fun _ h => h, fun _ h => h, fun h => h⟩
theorem Ste.trans {B : Nat} {m m1 m2 : Mu} {s s1 s2 : St} {H H1 H2 : Nat → Option RO} {w w1 w2 : World} (h : Ste B m s H w m1 s1 H1 w1) (k : Ste B m1 s1 H1 w1 m2 s2 H2 w2) : Ste B m s H w m2 s2 H2 w2 := by
  have n1 := h.nx
  have n2 := k.nx
  refine ⟨h.ext.trans k.ext, fun i hi => ?_, fun i hi hw => ?_, h.bel.trans k.bel, Nat.le_trans n1 n2, fun i e => k.ac i (h.ac i e), fun i e => k.wr i (h.wr i e), fun e => k.wa (h.wa e)⟩
  · rw [k.only i (by omega), h.only i (by omega)]
  · have h1 : s1.wr.testBit i = false := by
      cases e : s1.wr.testBit i with
      | false => rfl
      | true => rw [k.wr i e] at hw; cases hw
    rw [k.keep i (by omega) hw, h.keep i (by omega) h1]
/-- what is looked at lies in the print -/
def Fits (FP : Nat → Prop) (n0 hi : Nat) (s : St) : Prop := s.nx ≤ hi ∧ ∀ i, s.ac.testBit i = true → i < n0 → FP i
theorem Fits.back {FP : Nat → Prop} {n0 hi B : Nat} {m m1 : Mu} {s s1 : St} {H H1 : Nat → Option RO} {w w1 : World} (h : Ste B m s H w m1 s1 H1 w1) (k : Fits FP n0 hi s1) : Fits FP n0 hi s :=
  ⟨Nat.le_trans h.nx k.1, fun i e hi => k.2 i (h.ac i e) hi⟩

theorem bit_or (a i j : Nat) : (a ||| 2 ^ i).testBit j = (a.testBit j || decide (i = j)) := by
  rw [Nat.testBit_or, Nat.testBit_two_pow]
section
variable {FP : Nat → Prop} {n0 hi B : Nat} {m : Mu} {s s' : St} {H : Nat → Option RO} {w : World} {id : Nat} {ro : RO}
theorem look_spec (h : s.look id = some (ro, s')) (hf : Fits FP n0 hi s') (hv : Inv FP n0 hi B m s H w) :
    H id = some ro ∧ id < s.nx ∧ Inv FP n0 hi B m s' H w ∧ Ste B m s H w m s' H w ∧ s'.hp = s.hp ∧ s'.nx = s.nx := by
  unfold St.look at h
  split at h
  · rename_i hlt
    have hlt : id < s.nx := by simp [Nat.blt] at hlt; omega
    obtain ⟨o, ho, he⟩ := Option.map_eq_some_iff.1 h
    obtain ⟨rfl, rfl⟩ := Prod.mk.inj he
    refine ⟨?_, hlt, ⟨hv.vw, hv.cp, hv.fr, hv.lo, hv.base⟩, ⟨Le.refl m, fun _ _ => rfl, fun _ _ _ => rfl, Below.refl _ _, Nat.le_refl _, fun i e => ?_, fun _ e => e, fun e i k => ?_⟩, rfl, rfl⟩
    · rw [← hv.cp id (Nat.lt_of_lt_of_le hlt hf.1) ?_]; exact ho
      by_cases hn : n0 ≤ id
      · exact .inr hn
      · exact .inl (hf.2 id (by show (s.ac ||| 2 ^ id).testBit id = true; rw [bit_or]; simp) (by omega))
    · show (s.ac ||| 2 ^ id).testBit i = true
      rw [bit_or, e]; rfl
    · show (s.ac ||| 2 ^ id).testBit i = true
      rw [bit_or, e i k]; rfl
  · cases h
/-- a thing is written anew -/
theorem put_spec (h : s.put id ro = some s') (hv : Inv FP n0 hi B m s H w) {ro0 : RO} (h0 : H id = some ro0) (hl : ro0.live = true) {p : Nat × Nat} (hp : m id = some p) {w' : World}
    (hw : ∀ k, k ≠ p.1 → w'.heap[k]? = w.heap[k]?) (hos : w'.os = w.os) (htape : w'.tape = w.tape) (hout : w'.output = w.output) (hsz : w'.heap.size = w.heap.size) (hMt : Mt m B id w' ro) :
    Inv FP n0 hi B m s' (upd H id (some ro)) w' ∧ Ste B m s H w m s' (upd H id (some ro)) w' := by
  unfold St.put at h
  split at h
  · rename_i hlt
    have hlt : id < s.nx ∧ s.nx < top := by simp [Nat.blt] at hlt; omega
    cases h
    have hB := (hv.vw.at_ id ro0 h0).lt hl hp
    have hid : id + 1 < 2 ^ 40 := by have := hlt.1; have := hlt.2; unfold top at this; omega
    refine ⟨⟨⟨fun j rj hj => ?_, fun i j ri rj q r hi hj li lj hq hr e => ?_⟩, fun j hj hj' => ?_, fun j hj hj' => ?_, hv.lo, by rw [hsz]; exact hv.base⟩,
      ⟨Le.refl m, fun _ _ => rfl, fun i hi hwr => ?_, ⟨hos, htape, hout, Nat.le_of_eq hsz.symm, fun k hk => hw k (by omega)⟩, Nat.le_refl _, fun i e => ?_, fun i e => ?_, fun e i k => ?_⟩⟩
    · by_cases hji : j = id
      · subst hji; rw [upd_same] at hj; cases hj; exact hMt
      · rw [upd_ne _ _ hji] at hj
        refine (hv.vw.at_ j rj hj).mono (Le.refl m) (fun q lq hq hBq => hw _ fun e => hji ?_)
        exact hv.vw.inj j id rj ro0 q p hj h0 lq hl hq hp e
    · have gi : ∃ ri0, H i = some ri0 ∧ ri0.live = true := by
        by_cases e : i = id
        · subst e; exact ⟨ro0, h0, hl⟩
        · rw [upd_ne _ _ e] at hi; exact ⟨ri, hi, li⟩
      have gj : ∃ rj0, H j = some rj0 ∧ rj0.live = true := by
        by_cases e : j = id
        · subst e; exact ⟨ro0, h0, hl⟩
        · rw [upd_ne _ _ e] at hj; exact ⟨rj, hj, lj⟩
      obtain ⟨ri0, hi0, li0⟩ := gi
      obtain ⟨rj0, hj0, lj0⟩ := gj
      exact hv.vw.inj i j ri0 rj0 q r hi0 hj0 li0 lj0 hq hr e
    · show (Tr.set 40 s.hp id ro).get j = _
      rw [Tr.get_set _ _ _ _ _ hid]
      by_cases e : j = id
      · rw [if_pos e, e, upd_same]
      · rw [if_neg e, upd_ne _ _ e]; exact hv.cp j hj hj'
    · have hj : s.nx ≤ j := hj
      rw [upd_ne _ _ (by omega)]
      exact hv.fr j hj hj'
    · have hwr : (s.wr ||| 2 ^ id).testBit i = false := hwr
      rw [bit_or] at hwr
      by_cases e : i = id
      · subst e; simp at hwr
      · rw [upd_ne _ _ e]
    · show (s.ac ||| 2 ^ id).testBit i = true
      rw [bit_or, e]; rfl
    · show (s.wr ||| 2 ^ id).testBit i = true
      rw [bit_or, e]; rfl
    · have k : (s.wr ||| 2 ^ id).testBit i = true := k
      show (s.ac ||| 2 ^ id).testBit i = true
      rw [bit_or] at k ⊢
      rw [Bool.or_eq_true] at k ⊢
      exact k.imp (e i) (fun h => h)
  · cases h
/-- a thing is made: in a new block -/
theorem new_spec (h : s.new ro = some s') (hf : s'.nx ≤ hi) (hv : Inv FP n0 hi B m s H w) (c : Nat) (o : Obj) (hMt : Mt (upd m s.nx (some (w.heap.size, c))) B s.nx (w.alloc o) ro) :
    Inv FP n0 hi B (upd m s.nx (some (w.heap.size, c))) s' (upd H s.nx (some ro)) (w.alloc o) ∧ Ste B m s H w (upd m s.nx (some (w.heap.size, c))) s' (upd H s.nx (some ro)) (w.alloc o) := by
  unfold St.new at h
  split at h
  · rename_i hlt
    have hlt : s.nx < top := by simp [Nat.blt] at hlt; omega
    cases h
    have hf : s.nx + 1 ≤ hi := hf
    have hid : s.nx + 1 < 2 ^ 40 := by unfold top at hlt; omega
    obtain ⟨hm0, hH0⟩ := hv.fr s.nx (Nat.le_refl _) (by omega)
    have hle : Le m (upd m s.nx (some (w.heap.size, c))) := fun i p hi => by
      by_cases e : i = s.nx
      · subst e; rw [hm0] at hi; cases hi
      · rw [upd_ne _ _ e]; exact hi
    refine ⟨⟨⟨fun j rj hj => ?_, fun i j ri rj q r hi hj li lj hq hr e => ?_⟩, fun j hj hj' => ?_, fun j hj hj' => ?_, Nat.le_succ_of_le hv.lo, by rw [World.size_alloc]; exact Nat.le_succ_of_le hv.base⟩,
      ⟨hle, fun i hi => ?_, fun i hi hwr => ?_, (Below.refl B w).alloc hv.base o, Nat.le_succ _, fun i e => e, fun i e => e, fun e => e⟩⟩
    · by_cases hji : j = s.nx
      · subst hji; rw [upd_same] at hj; cases hj; exact hMt
      · rw [upd_ne _ _ hji] at hj
        refine (hv.vw.at_ j rj hj).mono hle (fun q lq hq hBq => Below.heap_alloc w o q.1 ?_)
        exact ((hv.vw.at_ j rj hj).lt lq hq).2
    · have old : ∀ {k rk : _} {u : Nat × Nat}, k ≠ s.nx → upd H s.nx (some ro) k = some rk → rk.live = true → upd m s.nx (some (w.heap.size, c)) k = some u → H k = some rk ∧ m k = some u ∧ u.1 < w.heap.size := by
        intro k rk u hk h1 h2 h3
        rw [upd_ne _ _ hk] at h1 h3
        exact ⟨h1, h3, ((hv.vw.at_ k rk h1).lt h2 h3).2⟩
      by_cases ei : i = s.nx
      · by_cases ej : j = s.nx
        · rw [ei, ej]
        · obtain ⟨_, _, h3⟩ := old ej hj lj hr
          rw [ei, upd_same] at hq; cases hq
          simp only at e; omega
      · obtain ⟨g1, g2, g3⟩ := old ei hi li hq
        by_cases ej : j = s.nx
        · rw [ej, upd_same] at hr; cases hr
          simp only at e; omega
        · obtain ⟨k1, k2, _⟩ := old ej hj lj hr
          exact hv.vw.inj i j ri rj q r g1 k1 li lj g2 k2 e
    · show (Tr.set 40 s.hp s.nx ro).get j = _
      rw [Tr.get_set _ _ _ _ _ hid]
      by_cases e : j = s.nx
      · rw [if_pos e, e, upd_same]
      · rw [if_neg e, upd_ne _ _ e]; exact hv.cp j hj hj'
    · have hj : s.nx + 1 ≤ j := hj
      rw [upd_ne _ _ (by omega), upd_ne _ _ (by omega)]
      exact hv.fr j (by omega) hj'
    · have hi : i < s.nx ∨ s.nx + 1 ≤ i := hi
      rw [upd_ne _ _ (by omega)]
    · have hi : i < s.nx ∨ s.nx + 1 ≤ i := hi
      rw [upd_ne _ _ (by omega)]
  · cases h
end
end Go.Ev
namespace Go.Ev
open Go.RowKit
set_option linter.unusedSimpArgs false
set_option linter.unnecessarySimpa false
set_option linter.unusedVariables false

/-- an operation goes as it was foretold -/
def Good (FP : Nat → Prop) (n0 hi B : Nat) (P : Program) (x : Sem Value) (v : Value) (m : Mu) (s : St) (H : Nat → Option RO) (w : World) (s' : St) : Prop :=
  ∃ v' w' m' H', x.run P w = .ok v' w' ∧ dn m' v = some v' ∧ Inv FP n0 hi B m' s' H' w' ∧ Ste B m s H w m' s' H' w'

def emp : Mu := fun _ => none
theorem emp_le (m : Mu) : Le emp m := fun _ _ h => by cases h
theorem dn0_emp {v v' : Value} (h : dn0 emp v = some v') : v' = v := by
  unfold dn0 at h
  split at h
  · cases h
  · cases h
  · cases h
  · cases h
  · cases h
  · cases h
  · cases h
  · cases h
  · cases h; rfl
theorem dnL_emp {f : Value → Option Value} (hf : ∀ v v', f v = some v' → v' = v) : ∀ {l l' : List Value}, dnL f l = some l' → l' = l
  | [], l', h => by simp [dnL] at h; exact h
  | v :: vs, l', h => by
    simp only [dnL] at h
    split at h
    · rename_i x xs h1 h2
      cases h
      rw [hf _ _ h1, dnL_emp hf h2]
    · cases h
theorem dn1_emp {v v' : Value} (h : dn1 emp v = some v') : v' = v := by
  unfold dn1 at h
  split at h
  · split at h
    · rename_i x y h1 h2
      cases h
      rw [dnL_emp (fun _ _ => dn0_emp) h1, dnL_emp (fun _ _ => dn0_emp) h2]
    · cases h
  · obtain ⟨p, hp, rfl⟩ := Option.map_eq_some_iff.1 h; rw [dn0_emp hp]
  · exact dn0_emp h
theorem dn2_emp {v v' : Value} (h : dn2 emp v = some v') : v' = v := by
  unfold dn2 at h
  split at h
  · obtain ⟨p, hp, rfl⟩ := Option.map_eq_some_iff.1 h; rw [dnL_emp (fun _ _ => dn1_emp) hp]
  · exact dn1_emp h
theorem dn_emp {v v' : Value} (h : dn emp v = some v') : v' = v := by
  unfold dn at h
  split at h
  · obtain ⟨p, hp, rfl⟩ := Option.map_eq_some_iff.1 h; rw [dnL_emp (fun _ _ => dn2_emp) hp]
  · exact dn2_emp h
/-- a value that names no block -/
def cl (v : Value) : Bool := (dn emp v).isSome
theorem cl_dn {v : Value} (h : cl v = true) (m : Mu) : dn m v = some v := by
  unfold cl at h
  obtain ⟨v', hv⟩ := Option.isSome_iff_exists.1 h
  have := dn_emp hv
  subst this
  exact dn_mono (emp_le m) hv
def cl2 (v : Value) : Bool := (dn2 emp v).isSome
theorem cl2_dn {v : Value} (h : cl2 v = true) (m : Mu) : dn2 m v = some v := by
  unfold cl2 at h
  obtain ⟨v', hv⟩ := Option.isSome_iff_exists.1 h
  have := dn2_emp hv
  subst this
  exact dn2_mono (emp_le m) hv
theorem cl_eq {v v' : Value} {m : Mu} (h : cl v = true) (k : dn m v = some v') : v' = v := by
  rw [cl_dn h m] at k; cases k; rfl

theorem dn_ptr {m : Mu} {a : Addr} {v' : Value} (h : dn m (.pointer (some a)) = some v') : ∃ p, m a.block = some p ∧ v' = .pointer (some ⟨p.1, a.off, a.spot⟩) := by
  obtain ⟨p, hp, rfl⟩ := Option.map_eq_some_iff.1 (show (m a.block).map _ = some v' from h)
  exact ⟨p, hp, rfl⟩
theorem dn_slice {m : Mu} {a : Addr} {n k : Nat} {v' : Value} (h : dn m (.slice (some a) n k) = some v') : ∃ p, m a.block = some p ∧ v' = .slice (some ⟨p.1, a.off, a.spot⟩) n (capOf p.2 k) := by
  obtain ⟨p, hp, rfl⟩ := Option.map_eq_some_iff.1 (show (m a.block).map _ = some v' from h)
  exact ⟨p, hp, rfl⟩
theorem dn_mapv {m : Mu} {r : Nat} {v' : Value} (h : dn m (.map (some r)) = some v') : ∃ p, m r = some p ∧ v' = .map (some p.1) := by
  obtain ⟨p, hp, rfl⟩ := Option.map_eq_some_iff.1 (show (m r).map _ = some v' from h)
  exact ⟨p, hp, rfl⟩
theorem mk_ptr {m : Mu} {a : Addr} {p : Nat × Nat} (h : m a.block = some p) : dn m (.pointer (some a)) = some (.pointer (some ⟨p.1, a.off, a.spot⟩)) := by
  show (m a.block).map _ = _
  rw [h]; rfl
theorem mk_slice {m : Mu} {a : Addr} {n k : Nat} {p : Nat × Nat} (h : m a.block = some p) : dn m (.slice (some a) n k) = some (.slice (some ⟨p.1, a.off, a.spot⟩) n (capOf p.2 k)) := by
  show (m a.block).map _ = _
  rw [h]; rfl
theorem dn2_of_cells {m : Mu} {v v' : Value} (h : dn m v = some v') (hn : ∀ vs, v ≠ .tuple vs) : dn2 m v = some v' := by
  unfold dn at h
  split at h
  · exact absurd rfl (hn _)
  · exact h
theorem add_none (b o j : Nat) : (⟨b, o, none⟩ : Addr).add j = ⟨b, o + j, none⟩ := by unfold Addr.add; split <;> simp_all

def rd (s : St) (a : Addr) (n : Nat) : Option (List Value × St) :=
  match a.spot with
  | some _ => none
  | none => match s.look a.block with
    | some (.cells cs _ _, s') => if Nat.ble (a.off + n) cs.length then some ((cs.drop a.off).take n, s') else none
    | _ => none
section
variable {FP : Nat → Prop} {n0 hi B : Nat} {m : Mu} {s s' : St} {H : Nat → Option RO} {w : World} {P : Program}
theorem rd_spec {a : Addr} {n : Nat} {l : List Value} (h : rd s a n = some (l, s')) (hf : Fits FP n0 hi s') (hv : Inv FP n0 hi B m s H w) :
    a.spot = none ∧ l.length = n ∧ Inv FP n0 hi B m s' H w ∧ Ste B m s H w m s' H w ∧ ∃ p l', m a.block = some p ∧ dnL (dn1 m) l = some l' ∧ ∀ j v', l'[j]? = some v' → w.cell? ((⟨p.1, a.off, none⟩ : Addr).add j) = some v' := by
  unfold rd at h
  split at h
  · cases h
  · rename_i hs
    split at h
    · rename_i cs e own s1 hl
      split at h
      · rename_i hle
        have hle : a.off + n ≤ cs.length := Nat.le_of_ble_eq_true hle
        obtain ⟨rfl, rfl⟩ := Prod.mk.inj (Option.some.inj h)
        obtain ⟨h1, _, h2, h3, _⟩ := look_spec hl hf hv
        obtain ⟨p, cur, cs', g1, g2, g3, g4, g5, g6⟩ := hv.vw.at_ _ _ h1
        have hlen := dnL_length g4
        refine ⟨hs, by simp; omega, h2, h3, p, (cs'.drop a.off).take n, g1, dnL_take (dnL_drop g4 _) _, fun j v' hj => ?_⟩
        rw [add_none, cell_of_row w p.1 (a.off + j) cur e (0, 0) g3]
        rw [List.getElem?_take] at hj
        split at hj
        · rename_i hjn
          rw [List.getElem?_drop] at hj
          rw [← g5, List.getElem?_take] at hj
          rw [if_pos (by rw [hlen]; omega)] at hj
          simpa using hj
        · cases hj
      · cases h
    · cases h

def aggD : TypeDesc → Bool
  | .struct _ | .array _ _ => true
  | _ => false
theorem run_isAgg {t : TypeId} {d : TypeDesc} (h : P.underlying t = some d) (w : World) : (isAgg t).run P w = .ok (aggD d) w := by
  simp only [isAgg, Sem.run_bind, run_underlying h, Result.andThen_ok]
  cases d <;> rfl
def evLoad (P : Program) (t : TypeId) (v : Value) (s : St) : Option (Value × St) :=
  match v, P.underlying t, P.info? t with
  | .pointer (some a), some d, some i =>
    if aggD d then (rd s a i.size).map fun x => (.agg x.1.toArray, x.2)
    else match rd s a 1 with
      | some ([x], s') => some (x, s')
      | _ => none
  | _, _, _ => none
theorem evLoad_same {t : TypeId} {v x v' : Value} (h : evLoad P t v s = some (x, s')) (hf : Fits FP n0 hi s') (hv : Inv FP n0 hi B m s H w) (hd : dn m v = some v') :
    ∃ y, (Instr.loadAt t v').run P w = .ok y w ∧ dn m x = some y ∧ Inv FP n0 hi B m s' H w ∧ Ste B m s H w m s' H w := by
  unfold evLoad at h
  split at h
  · rename_i a d i hu hi'
    obtain ⟨p, hp, rfl⟩ := dn_ptr hd
    split at h
    · rename_i hag
      obtain ⟨y, hy, he⟩ := Option.map_eq_some_iff.1 h
      obtain ⟨rfl, rfl⟩ := Prod.mk.inj he
      obtain ⟨h0, h1, h2, h3, p', l', g1, g2, g3⟩ := rd_spec (l := y.1) hy hf hv
      rw [hp] at g1; cases g1
      refine ⟨.agg l'.toArray, ?_, ?_, h2, h3⟩
      · have hl : i.size = l'.length := by rw [dnL_length g2, h1]
        have hc := run_loadCells_list (P := P) w ⟨p.1, a.off, none⟩ l' g3
        simp only [Instr.loadAt, Instr.sureAddr, loadVar, Sem.run_bind, Sem.run_pure, Result.andThen_ok, run_isAgg hu, hag, if_true, sizeOf, run_typeInfo _ hi', hl, h0, hc]
      · exact dn_of_dn2 (by simp [dn2, g2])
    · rename_i hag
      split at h
      · rename_i x1 s1 hr
        obtain ⟨rfl, rfl⟩ := Prod.mk.inj (Option.some.inj h)
        obtain ⟨h0, h1, h2, h3, p', l', g1, g2, g3⟩ := rd_spec hr hf hv
        rw [hp] at g1; cases g1
        obtain ⟨x', hx', hd'⟩ := dnL_at g2 (i := 0) (v := x1) rfl
        have hc := g3 0 x' hx'
        rw [add_none, Nat.add_zero] at hc
        refine ⟨x', ?_, dn_of_dn1 hd', h2, h3⟩
        have hag : aggD d = false := by simpa using hag
        simp only [Instr.loadAt, Instr.sureAddr, loadVar, Sem.run_bind, Sem.run_pure, Result.andThen_ok, run_isAgg hu, hag, Bool.false_eq_true, if_false, h0, run_load, hc]
      · cases h
  · cases h

theorem evLoad_spec {t : TypeId} {v x v' : Value} (h : evLoad P t v s = some (x, s')) (hf : Fits FP n0 hi s') (hv : Inv FP n0 hi B m s H w) (hd : dn m v = some v') :
    Good FP n0 hi B P (Instr.loadAt t v') x m s H w s' := by
  obtain ⟨y, h1, h2, h3, h4⟩ := evLoad_same h hf hv hd
  exact ⟨y, w, m, H, h1, h2, h3, h4⟩
theorem evLoad_ptr {t : TypeId} {v x : Value} (h : evLoad P t v s = some (x, s')) : ∃ a, v = .pointer (some a) := by
  unfold evLoad at h
  split at h
  · exact ⟨_, rfl⟩
  · cases h

def splice (l : List Value) (o : Nat) (v : List Value) : List Value := l.take o ++ v ++ l.drop (o + v.length)
theorem splice_length {l v : List Value} {o : Nat} (h : o + v.length ≤ l.length) : (splice l o v).length = l.length := by
  simp [splice]; omega
theorem splice_take {l v : List Value} {o n : Nat} (h : o + v.length ≤ n) (hn : n ≤ l.length) : (splice l o v).take n = splice (l.take n) o v := by
  unfold splice
  have e1 : (l.take n).take o = l.take o := by rw [List.take_take, Nat.min_eq_left (by omega)]
  rw [e1, List.take_append, List.take_of_length_le (by simp; omega), List.drop_take]
  congr 2
  simp
  omega
theorem dnL_splice {f : Value → Option Value} {l l' v v' : List Value} (h : dnL f l = some l') (k : dnL f v = some v') (o : Nat) : dnL f (splice l o v) = some (splice l' o v') := by
  unfold splice
  rw [show v'.length = v.length from dnL_length k]
  exact dnL_append (dnL_append (dnL_take h _) k) (dnL_drop h _)
theorem dnL_dn1_one {l l' : List Value} (h : dnL (dn1 m) l = some l') : ∀ u ∈ l', u.oneCell' = true := by
  intro u hu
  obtain ⟨i, hi⟩ := List.getElem?_of_mem hu
  obtain ⟨v, _, hv⟩ := dnL_at' h hi
  exact dn1_one hv
def evStore (P : Program) (t : TypeId) (a x : Value) (s : St) : Option (Value × St) :=
  match a, P.info? t with
  | .pointer (some a), some i =>
    match a.spot with
    | some _ => none
    | none => match x with
      | .tuple _ => none
      | _ => if Nat.beq x.cells.size i.size then match s.look a.block with
          | some (.cells cs e own, s1) => if Nat.ble (a.off + x.cells.size) cs.length then (s1.put a.block (.cells (splice cs a.off x.cells.toList) e own)).map fun s' => (undef, s') else none
          | _ => none
        else none
  | _, _ => none
theorem dn_undef (m : Mu) : dn m undef = some undef := rfl
/-- cells of a row are written -/
theorem write_spec {id o : Nat} {cs vs vs' : List Value} {e : TypeId} {own : Nat} {s1 : St} (hl : H id = some (.cells cs e own)) (hp : s1.put id (.cells (splice cs o vs) e own) = some s') (hv : Inv FP n0 hi B m s1 H w)
    (hle : o + vs.length ≤ cs.length) (hd : dnL (dn1 m) vs = some vs') {p : Nat × Nat} (hm : m id = some p) :
    ∃ w', (storeCells ⟨p.1, o, none⟩ vs').run P w = .ok () w' ∧ Inv FP n0 hi B m s' (upd H id (some (.cells (splice cs o vs) e own))) w' ∧ Ste B m s1 H w m s' (upd H id (some (.cells (splice cs o vs) e own))) w' := by
  obtain ⟨p', cur, cs', g1, g2, g3, g4, g5, g6, g7⟩ := hv.vw.at_ _ _ hl
  rw [hm] at g1; cases g1
  have hlen := dnL_length g4
  have hlv := dnL_length hd
  have hcur : cs'.length ≤ cur.size := by
    have := congrArg List.length g5
    simp at this; omega
  have hst := run_storeCells_at P p.1 o e vs' 0 cur w g3 (by omega) (dnL_dn1_one hd)
  simp only [Nat.add_zero] at hst
  have hnew := setRow_heap w p.1 cur (cur.toList.take o ++ vs' ++ cur.toList.drop (o + vs'.length)).toArray e (0, 0) g3
  have hsz : (splice cur.toList o vs').length = cur.size := by rw [splice_length (by simp; omega)]; simp
  have ht : (splice cur.toList o vs').take (splice cs' o vs').length = splice cs' o vs' := by
    rw [splice_length (by omega), splice_take (by omega) (by simpa using hcur), g5]
  refine ⟨_, hst, put_spec hp hv hl rfl hm (fun k hk => setRow_other w p.1 k _ hk) rfl rfl rfl (setRow_size _ _ _) ⟨p, _, splice cs' o vs', hm, g2, hnew, dnL_splice g4 hd o, ?_, ?_, ?_⟩⟩
  · simpa [splice] using ht
  · intro h0
    have := g6 h0
    rw [splice_length (by omega), ← this, ← hsz]
    simp [splice]
  · intro h0
    obtain ⟨k1, k2⟩ := g7 h0
    refine ⟨?_, k2⟩
    rw [← k1, ← hsz]
    simp [splice]
theorem evStore_spec {t : TypeId} {a x v a' x' : Value} (h : evStore P t a x s = some (v, s')) (hf : Fits FP n0 hi s') (hv : Inv FP n0 hi B m s H w) (ha : dn m a = some a') (hx : dn m x = some x') :
    v = undef ∧ ∃ w' H', (Instr.storeAt t a' x').run P w = .ok () w' ∧ Inv FP n0 hi B m s' H' w' ∧ Ste B m s H w m s' H' w' := by
  unfold evStore at h
  split at h
  · rename_i ad i hi'
    obtain ⟨p, hp, rfl⟩ := dn_ptr ha
    split at h
    · cases h
    · rename_i hs
      split at h
      · cases h
      · rename_i hnt
        split at h
        · rename_i hsz
          split at h
          · rename_i cs e own s1 hl
            split at h
            · rename_i hle
              obtain ⟨s2, hs2, he⟩ := Option.map_eq_some_iff.1 h
              obtain ⟨rfl, rfl⟩ := Prod.mk.inj he
              have hle : ad.off + x.cells.size ≤ cs.length := Nat.le_of_ble_eq_true hle
              have hsz : x.cells.size = i.size := Nat.eq_of_beq_eq_true hsz
              have hx2 := dn2_cells (dn2_of_cells hx (fun vs e => hnt vs e))
              have hx3 := dnL_length hx2
              simp only [Array.length_toList] at hx3
              have hf1 : Fits FP n0 hi s1 := by
                unfold St.put at hs2
                split at hs2
                · cases hs2
                  refine ⟨hf.1, fun i e hi => hf.2 i ?_ hi⟩
                  show (s1.ac ||| _).testBit i = true
                  rw [bit_or, e]; rfl
                · cases hs2
              obtain ⟨h1, _, h2, h3, _⟩ := look_spec hl hf1 hv
              obtain ⟨w', r1, r2, r3⟩ := write_spec (P := P) (vs' := x'.cells.toList) h1 hs2 h2 (by simpa using hle) hx2 hp
              refine ⟨rfl, w', _, ?_, r2, h3.trans r3⟩
              simp only [Instr.storeAt, Instr.sureAddr, storeVar, Sem.run_bind, Sem.run_pure, Result.andThen_ok, sizeOf, run_typeInfo _ hi', hx3, hsz, ne_eq, not_true_eq_false, if_false, hs, r1]
            · cases h
          · cases h
        · cases h
  · cases h
end
end Go.Ev
namespace Go.Ev
open Go.RowKit
set_option linter.unusedSimpArgs false
set_option linter.unnecessarySimpa false
set_option linter.unusedVariables false

/-- what asks the program alone -/
def runPure {α : Type} (P : Program) : Sem α → Option α
  | .pure a => some a
  | .program k => runPure P (k P)
  | _ => none
theorem runPure_sound {α : Type} {P : Program} : ∀ {x : Sem α} {a : α}, runPure P x = some a → ∀ w, x.run P w = .ok a w
  | .pure b, a, h, w => by simp only [runPure] at h; cases h; rfl
  | .program k, a, h, w => by simp only [runPure] at h; exact runPure_sound h w
  | .load .., _, h, _ => by cases h
  | .store .., _, h, _ => by cases h
  | .new .., _, h, _ => by cases h
  | .shape .., _, h, _ => by cases h
  | .freeze .., _, h, _ => by cases h
  | .frozen .., _, h, _ => by cases h
  | .getObj .., _, h, _ => by cases h
  | .setObj .., _, h, _ => by cases h
  | .choose .., _, h, _ => by cases h
  | .sys .., _, h, _ => by cases h
  | .mark .., _, h, _ => by cases h
  | .halt .., _, h, _ => by cases h

section
variable {FP : Nat → Prop} {n0 hi B : Nat} {m : Mu} {s s' : St} {H : Nat → Option RO} {w : World} {P : Program}
theorem Good.same {x : Sem Value} {v v' : Value} (hr : x.run P w = .ok v' w) (hd : dn m v = some v') (hv : Inv FP n0 hi B m s H w) : Good FP n0 hi B P x v m s H w s :=
  ⟨v', w, m, H, hr, hd, hv, Ste.refl _ _ _ _ _⟩

/-- a new row -/
theorem row_new {cs cs' : List Value} {e : TypeId} (h : s.new (.cells cs e 0) = some s') (hf : s'.nx ≤ hi) (hv : Inv FP n0 hi B m s H w) (hd : dnL (dn1 m) cs = some cs') :
    ∃ m' H', m' s.nx = some (w.heap.size, 0) ∧ Inv FP n0 hi B m' s' H' (w.alloc (.cells cs'.toArray e)) ∧ Ste B m s H w m' s' H' (w.alloc (.cells cs'.toArray e)) := by
  have hn0 := (hv.fr s.nx (Nat.le_refl _) (by
    unfold St.new at h; split at h
    · cases h; exact hf
    · cases h)).1
  have hle : Le m (upd m s.nx (some (w.heap.size, 0))) := fun i p hi => by
    by_cases e : i = s.nx
    · subst e; rw [hn0] at hi; cases hi
    · rw [upd_ne _ _ e]; exact hi
  obtain ⟨h1, h2⟩ := new_spec h hf hv 0 (.cells cs'.toArray e) ⟨_, cs'.toArray, cs', upd_same _ _ _, hv.base, heap_alloc_new w _, dnL_mono (fun _ _ => dn1_mono hle) hd, by simp, fun _ => by simp, fun h => absurd rfl h⟩
  exact ⟨_, _, upd_same _ _ _, h1, h2⟩
def evAlloc (P : Program) (e : TypeId) (s : St) : Option (Value × St) :=
  match P.info? e with
  | some i => match i.zero with
    | some z => if cl2 z then (s.new (.cells z.cells.toList e 0)).map fun s' => (.pointer (some ⟨s.nx, 0, none⟩), s') else none
    | none => none
  | none => none
theorem evAlloc_spec {e : TypeId} {v : Value} (h : evAlloc P e s = some (v, s')) (hf : Fits FP n0 hi s') (hv : Inv FP n0 hi B m s H w) : Good FP n0 hi B P (Instr.alloc e true (.tuple #[])) v m s H w s' := by
  unfold evAlloc at h
  split at h
  · rename_i i hi'
    split at h
    · rename_i z hz
      split at h
      · rename_i hc
        obtain ⟨s1, hs, he⟩ := Option.map_eq_some_iff.1 h
        obtain ⟨rfl, rfl⟩ := Prod.mk.inj he
        obtain ⟨m', H', g1, g2, g3⟩ := row_new hs hf.1 hv (dn2_cells (cl2_dn hc m))
        refine ⟨_, _, m', H', ?_, mk_ptr g1, g2, g3⟩
        simp [Instr.alloc, zeroValue, run_typeInfo _ hi', hz, newVar, newRow]
      · cases h
    · cases h
  · cases h
def evBox (e : TypeId) (x : Value) (s : St) : Option (Value × St) :=
  match x with
  | .tuple _ => none
  | x => (s.new (.cells x.cells.toList e 0)).map fun s' => (.pointer (some ⟨s.nx, 0, none⟩), s')
theorem evBox_spec {e : TypeId} {x x' v : Value} (h : evBox e x s = some (v, s')) (hf : Fits FP n0 hi s') (hv : Inv FP n0 hi B m s H w) (hx : dn m x = some x') : Good FP n0 hi B P (Instr.box e x') v m s H w s' := by
  unfold evBox at h
  split at h
  · cases h
  · rename_i hnt
    obtain ⟨s1, hs, he⟩ := Option.map_eq_some_iff.1 h
    obtain ⟨rfl, rfl⟩ := Prod.mk.inj he
    obtain ⟨m', H', g1, g2, g3⟩ := row_new hs hf.1 hv (dn2_cells (dn2_of_cells hx (fun vs e => hnt vs e)))
    refine ⟨_, _, m', H', ?_, mk_ptr g1, g2, g3⟩
    simp [Instr.box, newVar, newRow]
theorem dn_add {p : Nat × Nat} {a : Addr} (h : m a.block = some p) (n : Nat) : dn m (.pointer (some (a.add n))) = some (.pointer (some ((⟨p.1, a.off, a.spot⟩ : Addr).add n))) := by
  unfold Addr.add
  split
  · exact mk_ptr h
  · exact mk_ptr (a := ⟨a.block, a.off + n, none⟩) h
def evField (P : Program) (t : TypeId) (v : Value) (f : Nat) : Option Value :=
  match v, P.underlying t with
  | .pointer (some a), some (.struct fs) => match fs[f]? with
    | some fl => match P.info? fl.type with
      | some i => if Nat.beq i.size 0 then none else some (.pointer (some (a.add fl.offset)))
      | none => none
    | none => none
  | _, _ => none
theorem evField_spec {t : TypeId} {x x' v : Value} {f : Nat} (h : evField P t x f = some v) (hv : Inv FP n0 hi B m s H w) (hx : dn m x = some x') : Good FP n0 hi B P (Instr.fieldAt t x' f) v m s H w s := by
  unfold evField at h
  split at h
  · rename_i a fs hu
    obtain ⟨p, hp, rfl⟩ := dn_ptr hx
    split at h
    · rename_i fl hfl
      split at h
      · rename_i i hi'
        split at h
        · cases h
        · rename_i hz
          cases h
          have hz : ¬ i.size = 0 := fun e => hz (by rw [e]; rfl)
          refine Good.same ?_ (dn_add hp _) hv
          simp [Instr.fieldAt, run_underlying hu, hfl, Instr.sureAddr, fieldPlace, sizeOf, run_typeInfo _ hi', hz]
      · cases h
    · cases h
  · cases h
def evIndexAt (P : Program) (t : TypeId) (v x : Value) : Option Value :=
  match P.underlying t, v, x with
  | some (.slice e), .slice (some a) n _, .int _ i => match P.info? e with
    | some o => if decide (0 ≤ i) && decide (i < n) then some (.pointer (some (a.add (i.toNat * o.size)))) else none
    | none => none
  | some (.array n e), .pointer (some a), .int _ i => match P.info? e with
    | some o => if decide (0 ≤ i) && decide (i < n) then some (.pointer (some (a.add (i.toNat * o.size)))) else none
    | none => none
  | _, _, _ => none
theorem evIndexAt_spec {t : TypeId} {x x' y y' v : Value} (h : evIndexAt P t x y = some v) (hv : Inv FP n0 hi B m s H w) (hx : dn m x = some x') (hy : dn m y = some y') : Good FP n0 hi B P (Instr.indexAt t x' y') v m s H w s := by
  unfold evIndexAt at h
  split at h
  · rename_i e a n c k i hu
    obtain ⟨p, hp, rfl⟩ := dn_slice hx
    cases hy
    split at h
    · rename_i o ho
      split at h
      · rename_i hb
        simp only [Bool.and_eq_true, decide_eq_true_eq] at hb
        cases h
        refine Good.same ?_ (dn_add hp _) hv
        simp [Instr.indexAt, asIntOf, run_underlying hu, hb, sizeOf, run_typeInfo _ ho]
      · cases h
    · cases h
  · rename_i n e a k i hu
    obtain ⟨p, hp, rfl⟩ := dn_ptr hx
    cases hy
    split at h
    · rename_i o ho
      split at h
      · rename_i hb
        simp only [Bool.and_eq_true, decide_eq_true_eq] at hb
        cases h
        refine Good.same ?_ (dn_add hp _) hv
        simp [Instr.indexAt, asIntOf, run_underlying hu, hb, sizeOf, run_typeInfo _ ho, Instr.sureAddr]
      · cases h
    · cases h
  · cases h
def natOf (x : Option Value) (d : Nat) : Option Nat :=
  match x with
  | none => some d
  | some (.int _ i) => if decide (0 ≤ i) then some i.toNat else none
  | _ => none
/-- a number, or nothing, is the same in both -/
def SameInt (x x' : Option Value) : Prop := (x = none → x' = none) ∧ ∀ k i, x = some (.int k i) → x' = some (.int k i)
theorem natOf_spec {x x' : Option Value} {d k : Nat} (h : natOf x d = some k) (hs : SameInt x x') : (x' = none ∧ k = d) ∨ ∃ q i, x' = some (.int q i) ∧ 0 ≤ i ∧ k = i.toNat := by
  unfold natOf at h
  split at h
  · cases h; exact .inl ⟨hs.1 rfl, rfl⟩
  · rename_i q i
    split at h
    · rename_i h0
      cases h
      exact .inr ⟨q, i, hs.2 q i rfl, of_decide_eq_true h0, rfl⟩
    · cases h
  · cases h
theorem run_bounds {b : Bool} {n c l h : Nat} {lo hi lo' hi' : Option Value} (hlo : natOf lo 0 = some l) (hhi : natOf hi n = some h) (slo : SameInt lo lo') (shi : SameInt hi hi') (h1 : l ≤ h) (h2 : h ≤ c) :
    (Instr.sliceBounds b n c lo' hi' none).run P w = .ok (l, h, c) w := by
  rcases natOf_spec hlo slo with ⟨rfl, rfl⟩ | ⟨q, i, rfl, hi0, rfl⟩
  · rcases natOf_spec hhi shi with ⟨rfl, rfl⟩ | ⟨q, i, rfl, hi0, rfl⟩
    · simp [Instr.sliceBounds]
    · have : i ≤ c := by omega
      simp [Instr.sliceBounds, Instr.sliceBound, asIntOf, hi0, this]
  · rcases natOf_spec hhi shi with ⟨rfl, rfl⟩ | ⟨q', i', rfl, hi0', rfl⟩
    · have : i ≤ h := by omega
      simp [Instr.sliceBounds, Instr.sliceBound, asIntOf, hi0, this]
    · have e1 : i ≤ i' := by omega
      have e2 : i' ≤ c := by omega
      have e3 : i ≤ max i' 0 := by omega
      simp [Instr.sliceBounds, Instr.sliceBound, asIntOf, hi0, hi0', e1, e2, e3]
/-- 's[l:h]' of a row whose room is known -/
def evSlice (P : Program) (t : TypeId) (v : Value) (lo hi mx : Option Value) : Option Value :=
  match P.underlying t, v, mx with
  | some (.slice e), .slice (some a) n c, none => match P.info? e, natOf lo 0, natOf hi n with
    | some o, some l, some h => if Nat.ble l h && Nat.ble h c && Nat.blt c unk then some (.slice (some (if c = l then a else a.add (l * o.size))) (h - l) (c - l)) else none
    | _, _, _ => none
  | some (.array n e), .pointer (some a), none => match P.info? e, natOf lo 0, natOf hi n with
    | some o, some l, some h => if Nat.ble l h && Nat.ble h n && Nat.blt n unk then some (.slice (some (if n = l then a else a.add (l * o.size))) (h - l) (n - l)) else none
    | _, _, _ => none
  | _, _, _ => none
theorem capOf_lt {c k : Nat} (h : k < unk) : capOf c k = k := by
  unfold capOf
  rw [if_neg]
  intro e
  have := Nat.le_of_ble_eq_true e
  omega
theorem dn_addS {p : Nat × Nat} {a : Addr} (h : m a.block = some p) (c l k n j : Nat) (hj : j < unk) : dn m (.slice (some (if c = l then a else a.add k)) n j) = some (.slice (some (if c = l then ⟨p.1, a.off, a.spot⟩ else (⟨p.1, a.off, a.spot⟩ : Addr).add k)) n j) := by
  split
  · rw [mk_slice h, capOf_lt hj]
  · unfold Addr.add
    split
    · rw [mk_slice h, capOf_lt hj]
    · rw [mk_slice (a := ⟨a.block, a.off + k, none⟩) h, capOf_lt hj]
theorem blt_iff {a b : Nat} : Nat.blt a b = true ↔ a < b := by simp [Nat.blt]; omega
theorem evSlice_spec {t : TypeId} {x x' v : Value} {lo hi' mx lo' hi'' mx' : Option Value} (h : evSlice P t x lo hi' mx = some v) (hv : Inv FP n0 hi B m s H w) (hx : dn m x = some x')
    (slo : SameInt lo lo') (shi : SameInt hi' hi'') (smx : SameInt mx mx') : Good FP n0 hi B P (Instr.sliceAt t x' lo' hi'' mx') v m s H w s := by
  unfold evSlice at h
  split at h
  · rename_i e a n c hu
    obtain ⟨p, hp, rfl⟩ := dn_slice hx
    rw [smx.1 rfl]
    split at h
    · rename_i o l k ho hl hk
      split at h
      · rename_i hb
        simp only [Bool.and_eq_true, Nat.ble_eq, blt_iff] at hb
        cases h
        have hc : capOf p.2 c = c := capOf_lt hb.2
        rw [hc]
        refine Good.same ?_ (dn_addS hp c l (l * o.size) (k - l) (c - l) (by omega)) hv
        have hr := run_bounds (P := P) (w := w) (b := true) (c := c) hl hk slo shi hb.1.1 hb.1.2
        simp only [Instr.sliceAt, Instr.slice, run_underlying hu, Sem.run_bind, Sem.run_pure, Result.andThen_ok, hr, sizeOf, run_typeInfo _ ho]
        by_cases e : c = l <;> simp [e]
      · cases h
    · cases h
  · rename_i n e a hu
    obtain ⟨p, hp, rfl⟩ := dn_ptr hx
    rw [smx.1 rfl]
    split at h
    · rename_i o l k ho hl hk
      split at h
      · rename_i hb
        simp only [Bool.and_eq_true, Nat.ble_eq, blt_iff] at hb
        cases h
        refine Good.same ?_ (dn_addS hp n l (l * o.size) (k - l) (n - l) (by omega)) hv
        have hr := run_bounds (P := P) (w := w) (b := false) (n := n) (c := n) hl hk slo shi hb.1.1 hb.1.2
        simp only [Instr.sliceAt, Instr.sureAddr, run_underlying hu, Sem.run_bind, Sem.run_pure, Result.andThen_ok, hr, sizeOf, run_typeInfo _ ho]
      · cases h
    · cases h
  · cases h
end
end Go.Ev
