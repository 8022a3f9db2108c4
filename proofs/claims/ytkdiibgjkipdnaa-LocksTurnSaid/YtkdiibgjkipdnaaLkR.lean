/-
  LocksTurn: the mutexes and the book between the steps.
-/
import Derived.Test.YtkdiibgjkipdnaaLkS
namespace Go.Proofs.Ytkdiibgjkipdnaa
open Go.RowKit Go.Maps
set_option linter.unusedSimpArgs false
set_option linter.unusedVariables false

def key3 (h : Nat) : Key := ⟨(h : Int) + 1, 1, 3⟩
theorem key3_inj {h k : Nat} (e : key3 h = key3 k) : h = k := by
  unfold key3 at e
  injection e with e1 _ _
  omega
structure Turn (w0 w : World) (lp mp bp mn : Nat) (mb : Nat → Nat) (f : Int → Int → Value) (B : Bk) (l : Nat → List Nat) (j : Nat) : Prop where
  lk : LkAt w lp mp bp mn f B
  gr : ∀ h, h < 3 → Row w (mb h) 82 [.int .u32 (holdA (l h)), .int .u32 (holdG (l h))]
  mi : ∀ h k, h < 3 → k < 3 → mb h = mb k → h = k
  rows : ∀ h, h < 3 → (inRow (key3 h) B.N).map (fun x => (x.rc.hs, x.rc.hg)) = (l h).tail.map fun (k : Nat) => (11 + (k : Int), (1 : Int))
  keys : ∀ x ∈ B.N, ∃ h, h < 3 ∧ x.rc.key = key3 h
  ap : Apart B.N
  six : ∀ h, h < 3 → ∀ k ∈ l h, k < 6
  ser : ∀ x ∈ B.N, 0 ≤ x.ser
  few : B.gens.length ≤ j ∧ B.put ≤ j ∧ B.mn ≤ j ∧ B.N.length ≤ j
  bel : Below w0.heap.size w0 w
  up : ∀ k, B.own bp k → w0.heap.size ≤ k
  lo : ∀ h, h < 3 → w0.heap.size ≤ mb h
  len : ∀ h, h < 3 → (l h).length ≤ j
theorem Apart.ne {N : List Nd} (h : Apart N) : ∀ {x y : Nd}, x ∈ N → y ∈ N → x ≠ y → sameH y.rc.hs y.rc.hg x.rc.hs x.rc.hg = false := by
  induction N with
  | nil => intro x y hx; cases hx
  | cons z N ih =>
    unfold Apart at h ih
    rw [List.pairwise_cons] at h
    intro x y hx hy hne
    rcases List.mem_cons.1 hx with hxz | hx2
    · subst hxz
      rcases List.mem_cons.1 hy with hyz | hy2
      · exact absurd hyz.symm hne
      · exact h.1 y hy2
    · rcases List.mem_cons.1 hy with hyz | hy2
      · subst hyz
        have := h.1 x hx2
        rw [← Bool.not_eq_true] at this ⊢
        exact fun e => this (by have := sameH_iff.1 e; exact sameH_iff.2 ⟨this.1.symm, this.2.symm⟩)
      · exact ih h.2 hx2 hy2 hne
/-- in which lines somebody waits, of the first h -/
def waitsIn (l : Nat → List Nat) (k h : Nat) : Bool := (List.range h).any fun i => (l i).tail.any fun q => q == k
theorem waitsIn_step (l : Nat → List Nat) (k h : Nat) : waitsIn l k (h + 1) = (waitsIn l k h || (l h).tail.any fun q => q == k) := by
  unfold waitsIn
  rw [List.range_succ, List.any_append]
  simp
section
variable {w0 w w' : World} {lp mp bp mn : Nat} {mb : Nat → Nat} {f : Int → Int → Value} {B : Bk} {l : Nat → List Nat} {j : Nat}
theorem Turn.below (h : Turn w0 w lp mp bp mn mb f B l j) (hb : Below w.heap.size w w') : Turn w0 w' lp mp bp mn mb f B l j :=
  ⟨h.lk.below hb, fun k hk => (h.gr k hk).below hb (h.gr k hk).lt, h.mi, h.rows, h.keys, h.ap, h.six, h.ser, h.few, h.bel.trans (hb.mono h.bel.size), h.up, h.lo, h.len⟩
theorem Turn.more (h : Turn w0 w lp mp bp mn mb f B l j) : Turn w0 w lp mp bp mn mb f B l (j + 1) :=
  ⟨h.lk, h.gr, h.mi, h.rows, h.keys, h.ap, h.six, h.ser, by obtain ⟨a, b, c, d⟩ := h.few; exact ⟨by omega, by omega, by omega, by omega⟩, h.bel, h.up, h.lo, fun k hk => Nat.le_succ_of_le (h.len k hk)⟩
/-- other blocks have turned -/
theorem Turn.but (h : Turn w0 w lp mp bp mn mb f B l j) {S : Nat → Prop} (hb : But S w w') (h1 : ¬ S lp) (h2 : ¬ S mp) (h3 : ∀ k, B.own bp k → ¬ S k) (h4 : ∀ k, k < 3 → ¬ S (mb k)) (h5 : ∀ k, S k → w0.heap.size ≤ k) : Turn w0 w' lp mp bp mn mb f B l j :=
  ⟨h.lk.but2 hb h1 h2 h3, fun k hk => hb.row (h.gr k hk) (h4 k hk), h.mi, h.rows, h.keys, h.ap, h.six, h.ser, h.few, But.below h.bel hb h.bel.size h5, h.up, h.lo, h.len⟩
theorem Turn.mb_book (h : Turn w0 w lp mp bp mn mb f B l j) {k : Nat} (hk : k < 3) : ¬ B.own bp (mb k) := h.lk.book.mem.not_own (h.gr k hk) (by decide)
theorem Turn.any (h : Turn w0 w lp mp bp mn mb f B l j) (k : Nat) : (B.N.any fun q => sameH q.rc.hs q.rc.hg (11 + (k : Int)) 1) = waitsIn l k 3 := by
  rw [Bool.eq_iff_iff, List.any_eq_true]
  unfold waitsIn
  rw [List.any_eq_true]
  constructor
  · rintro ⟨x, hx, e⟩
    obtain ⟨i, hi, hk⟩ := h.keys x hx
    refine ⟨i, List.mem_range.2 hi, ?_⟩
    have hm : (x.rc.hs, x.rc.hg) ∈ (inRow (key3 i) B.N).map (fun x => (x.rc.hs, x.rc.hg)) := List.mem_map.2 ⟨x, by unfold inRow; rw [List.mem_filter]; exact ⟨hx, decide_eq_true hk⟩, rfl⟩
    rw [h.rows i hi] at hm
    obtain ⟨q, hq, e2⟩ := List.mem_map.1 hm
    obtain ⟨e3, e4⟩ := sameH_iff.1 e
    rw [List.any_eq_true]
    refine ⟨q, hq, ?_⟩
    have := (Prod.mk.inj e2).1
    simp; omega
  · rintro ⟨i, hi, e⟩
    have hi := List.mem_range.1 hi
    rw [List.any_eq_true] at e
    obtain ⟨q, hq, e⟩ := e
    have e : q = k := by simpa using e
    subst e
    have hm : (11 + (q : Int), (1 : Int)) ∈ (l i).tail.map fun (k : Nat) => (11 + (k : Int), (1 : Int)) := List.mem_map.2 ⟨q, hq, rfl⟩
    rw [← h.rows i hi] at hm
    obtain ⟨x, hx, e2⟩ := List.mem_map.1 hm
    obtain ⟨e3, e4⟩ := Prod.mk.inj e2
    exact ⟨x, (inRow_mem hx).1, sameH_iff.2 ⟨e3, e4⟩⟩
/-- a mutex that nobody has is taken -/
theorem Turn.free (h : Turn w0 w lp mp bp mn mb f B l j) {i k : Nat} (hi : i < 3) (hk : k < 6) (hl : l i = []) (hr : Row w' (mb i) 82 [.int .u32 (11 + (k : Int)), .int .u32 1]) (hb : But (fun q => q = mb i) w w') :
    Turn w0 w' lp mp bp mn mb f B (upd3 l i (l i ++ [k])) (j + 1) := by
  obtain ⟨a, b, c, d⟩ := h.few
  refine ⟨h.lk.but (h.gr i hi) (by decide) (by decide) hb, fun q hq => ?_, h.mi, fun q hq => ?_, h.keys, h.ap, fun q hq => ?_, h.ser, ⟨by omega, by omega, by omega, by omega⟩, But.below h.bel hb h.bel.size (fun q e => by rw [e]; exact h.lo i hi), h.up, h.lo, fun q hq => ?_⟩
  · by_cases e : q = i
    · subst e; rw [upd3_same, hl]; exact hr
    · rw [upd3_ne _ _ e]; exact hb.row (h.gr q hq) (fun e2 => e (h.mi q i hq hi e2))
  · by_cases e : q = i
    · subst e; rw [upd3_same, h.rows q hq, hl]; rfl
    · rw [upd3_ne _ _ e]; exact h.rows q hq
  · by_cases e : q = i
    · subst e; rw [upd3_same, hl]; intro x hx; simp at hx; omega
    · rw [upd3_ne _ _ e]; exact h.six q hq
  · by_cases e : q = i
    · subst e; rw [upd3_same, List.length_append]; have := h.len q hq; simp; omega
    · rw [upd3_ne _ _ e]; have := h.len q hq; omega
/-- who asks for one that somebody has waits -/
theorem Turn.park (h : Turn w0 w lp mp bp mn mb f B l j) {i k : Nat} (hi : i < 3) (hk : k < 6) (hl : l i ≠ []) {B' : Bk} {x : Nd} (hp : Parks w bp B (key3 i) (11 + (k : Int)) 1 w' B' x) (hno : ∀ x ∈ B.N, sameH x.rc.hs x.rc.hg (11 + (k : Int)) 1 = false) :
    Turn w0 w' lp mp bp mn mb f B' (upd3 l i (l i ++ [k])) (j + 1) := by
  obtain ⟨a, b, c, d⟩ := h.few
  have hN : B'.N.length = B.N.length + 1 := by rw [hp.N, List.length_append]; rfl
  obtain ⟨k0, l0, hl0⟩ : ∃ k0 l0, l i = k0 :: l0 := by
    cases e : l i with
    | nil => exact absurd e hl
    | cons k0 l0 => exact ⟨_, _, rfl⟩
  refine ⟨h.lk.to hp.bk, fun q hq => ?_, h.mi, fun q hq => ?_, fun y hy => ?_, ?_, fun q hq => ?_, fun y hy => ?_, ⟨Nat.le_trans hp.gens (by omega), by rw [hp.put]; omega, Nat.le_trans hp.mn (by omega), by omega⟩, But.below h.bel hp.bk.but h.bel.size h.up, fun q hq => ?_, h.lo, fun q hq => ?_⟩
  · by_cases e : q = i
    · subst e; rw [upd3_same]
      have := hp.bk.but.row (h.gr q hq) (h.mb_book hq)
      rw [hl0] at this ⊢
      exact this
    · rw [upd3_ne _ _ e]; exact hp.bk.but.row (h.gr q hq) (h.mb_book hq)
  · rw [hp.N, inRow_append, List.map_append, h.rows q hq]
    by_cases e : q = i
    · subst e; rw [upd3_same, hl0, ← hp.key, inRow_one_same]
      simp [hp.hs, hp.hg]
    · rw [upd3_ne _ _ e, inRow_one_other (by rw [hp.key]; exact fun e2 => e (key3_inj e2.symm))]; simp
  · rw [hp.N] at hy
    rcases List.mem_append.1 hy with e | e
    · exact h.keys y e
    · rw [List.mem_singleton.1 e]; exact ⟨i, hi, hp.key⟩
  · unfold Apart
    rw [hp.N, List.pairwise_append]
    refine ⟨h.ap, by simp, fun y hy z hz => ?_⟩
    rw [List.mem_singleton.1 hz, hp.hs, hp.hg]
    have := hno y hy
    rw [← Bool.not_eq_true] at this ⊢
    exact fun e => this (by have := sameH_iff.1 e; exact sameH_iff.2 ⟨this.1.symm, this.2.symm⟩)
  · by_cases e : q = i
    · subst e; rw [upd3_same]; intro x hx
      rcases List.mem_append.1 hx with e | e
      · exact h.six q hq x e
      · simp at e; omega
    · rw [upd3_ne _ _ e]; exact h.six q hq
  · rw [hp.N] at hy
    rcases List.mem_append.1 hy with e | e
    · exact h.ser y e
    · rw [List.mem_singleton.1 e, hp.ser]; have := h.lk.book.ok.fewp; omega
  · rcases hp.bk.own q hq with e | e
    · exact h.up q e
    · exact Nat.le_trans h.bel.size e
  · by_cases e : q = i
    · subst e; rw [upd3_same, List.length_append]; have := h.len q hq; simp; omega
    · rw [upd3_ne _ _ e]; have := h.len q hq; omega
theorem inRow_left (B : Bk) (k : Key) (hs hg : Int) : inRow k (B.left hs hg).N = (inRow k B.N).filter fun x => !sameH x.rc.hs x.rc.hg hs hg := by
  unfold inRow Bk.left
  rw [List.filter_filter, List.filter_filter]
  congr 1
  funext x
  exact Bool.and_comm _ _
/-- the first one who waits has it -/
theorem Turn.hand (h : Turn w0 w lp mp bp mn mb f B l j) {i k0 k1 : Nat} {l0 : List Nat} (hi : i < 3) (hl : l i = k0 :: k1 :: l0) {x : Nd} (hx : (inRow (key3 i) B.N).head? = some x) (hu : UEnd w lp mp bp mn (mb i) f B (B.left x.rc.hs x.rc.hg) x.rc.hs x.rc.hg w') :
    x.rc.hs = 11 + (k1 : Int) ∧ x.rc.hg = 1 ∧ Turn w0 w' lp mp bp mn mb f (B.left x.rc.hs x.rc.hg) (upd3 l i (k1 :: l0)) (j + 1) := by
  obtain ⟨a, b, c, d⟩ := h.few
  obtain ⟨r, hr⟩ : ∃ r, inRow (key3 i) B.N = x :: r := by
    cases e : inRow (key3 i) B.N with
    | nil => rw [e] at hx; cases hx
    | cons y r => rw [e] at hx; cases hx; exact ⟨r, rfl⟩
  have h1 := h.rows i hi
  rw [hr, hl] at h1
  simp only [List.map_cons, List.tail_cons] at h1
  obtain ⟨h2, h3⟩ := List.cons.inj h1
  obtain ⟨e1, e2⟩ := Prod.mk.inj h2
  have hxN : x ∈ B.N ∧ x.rc.key = key3 i := inRow_mem (by rw [hr]; exact List.mem_cons_self)
  have hsub : ∀ y, y ∈ (B.left x.rc.hs x.rc.hg).N → y ∈ B.N := fun y hy => (List.mem_filter.1 hy).1
  refine ⟨e1, e2, hu.lk, fun q hq => ?_, h.mi, fun q hq => ?_, fun y hy => h.keys y (hsub y hy), h.ap.sublist List.filter_sublist, fun q hq => ?_, fun y hy => h.ser y (hsub y hy), ⟨Nat.le_succ_of_le a, Int.le_trans b (by omega), Nat.le_succ_of_le c, Nat.le_trans (List.length_filter_le _ _) (by omega)⟩, ?_, fun q hq => ?_, h.lo, fun q hq => ?_⟩
  · by_cases e : q = i
    · subst e; rw [upd3_same]
      have := hu.gr
      rw [e1, e2] at this
      exact this
    · rw [upd3_ne _ _ e]; exact hu.but.row (h.gr q hq) (fun e2 => by rcases e2 with e2 | e2; exact h.mb_book hq e2; exact e (h.mi q i hq hi e2))
  · rw [inRow_left]
    by_cases e : q = i
    · subst e; rw [upd3_same, hr, List.filter_cons, if_neg (by simp [sameH_iff.2 ⟨rfl, rfl⟩])]
      have hp := h.ap.sublist (inRow_sub (key3 q) B.N)
      rw [hr] at hp
      rw [List.pairwise_cons] at hp
      rw [List.filter_eq_self.2 (fun y hy => by rw [hp.1 y hy]; rfl)]
      exact h3
    · rw [upd3_ne _ _ e, List.filter_eq_self.2 (fun y hy => ?_)]
      · exact h.rows q hq
      · obtain ⟨hyN, hyk⟩ := inRow_mem hy
        rw [h.ap.ne hxN.1 hyN (fun e2 => e (key3_inj (by rw [← hyk, ← hxN.2, e2])))]; rfl
  · by_cases e : q = i
    · subst e; rw [upd3_same]; intro y hy; exact h.six q hq y (by rw [hl]; exact List.mem_cons_of_mem _ hy)
    · rw [upd3_ne _ _ e]; exact h.six q hq
  · refine But.below h.bel hu.but h.bel.size ?_
    rintro q (e | e)
    · exact h.up q e
    · rw [e]; exact h.lo i hi
  · rcases hu.own q hq with e | e
    · exact h.up q e
    · exact Nat.le_trans h.bel.size e
  · by_cases e : q = i
    · subst e; rw [upd3_same]; have := h.len q hq; rw [hl] at this; simp at this ⊢; omega
    · rw [upd3_ne _ _ e]; have := h.len q hq; omega
/-- nobody waits: it is free -/
theorem Turn.give (h : Turn w0 w lp mp bp mn mb f B l j) {i k0 : Nat} (hi : i < 3) (hl : l i = [k0]) (hu : UEnd w lp mp bp mn (mb i) f B B 0 0 w') : Turn w0 w' lp mp bp mn mb f B (upd3 l i []) (j + 1) := by
  obtain ⟨a, b, c, d⟩ := h.few
  refine ⟨hu.lk, fun q hq => ?_, h.mi, fun q hq => ?_, h.keys, h.ap, fun q hq => ?_, h.ser, ⟨by omega, by omega, by omega, by omega⟩, ?_, h.up, h.lo, fun q hq => ?_⟩
  · by_cases e : q = i
    · subst e; rw [upd3_same]; exact hu.gr
    · rw [upd3_ne _ _ e]; exact hu.but.row (h.gr q hq) (fun e2 => by rcases e2 with e2 | e2; exact h.mb_book hq e2; exact e (h.mi q i hq hi e2))
  · by_cases e : q = i
    · subst e; rw [upd3_same, h.rows q hq, hl]; rfl
    · rw [upd3_ne _ _ e]; exact h.rows q hq
  · by_cases e : q = i
    · subst e; rw [upd3_same]; intro y hy; cases hy
    · rw [upd3_ne _ _ e]; exact h.six q hq
  · refine But.below h.bel hu.but h.bel.size ?_
    rintro q (e | e)
    · exact h.up q e
    · rw [e]; exact h.lo i hi
  · by_cases e : q = i
    · subst e; rw [upd3_same]; simp
    · rw [upd3_ne _ _ e]; have := h.len q hq; omega
/-- the head of a row is there just where somebody waits -/
theorem Turn.head (h : Turn w0 w lp mp bp mn mb f B l j) {i : Nat} (hi : i < 3) : (inRow (key3 i) B.N).length = (l i).length - 1 := by
  have := congrArg List.length (h.rows i hi)
  simpa using this
/-- the lines and the mutexes lie apart -/
theorem Lines.turn {lb : Nat} {v : Nat → Value} {l2 : Nat → List Nat} (hL : Lines w0 w lb l2 v) (h : Turn w0 w lp mp bp mn mb f B l j) {q : Nat} (hq : q = lb ∨ ∃ h, h < 3 ∧ (v h).ownBlock = some q) : ¬ B.own bp q ∧ (∀ k, k < 3 → q ≠ mb k) ∧ q ≠ lp ∧ q ≠ mp := by
  obtain ⟨e, cs, hr, he⟩ := hL.row hq
  rcases he with rfl | rfl
  · exact ⟨h.lk.book.mem.not_own hr (by decide), fun k hk => hr.ne (h.gr k hk) (by decide), hr.ne h.lk.obj (by decide), fun e => h.lk.map_ne hr e.symm⟩
  · exact ⟨h.lk.book.mem.not_own hr (by decide), fun k hk => hr.ne (h.gr k hk) (by decide), hr.ne h.lk.obj (by decide), fun e => h.lk.map_ne hr e.symm⟩
theorem Lines.but {lb : Nat} {v : Nat → Value} {l2 : Nat → List Nat} (hL : Lines w0 w lb l2 v) (h : Turn w0 w lp mp bp mn mb f B l j) {i : Nat} (hi : i < 3) (hb : But (fun k => B.own bp k ∨ k = mb i) w w') : Lines w0 w' lb l2 v :=
  hL.move fun q hq => hb.block q (hL.lt hq) fun e => by
    obtain ⟨h1, h2, _⟩ := hL.turn h hq
    rcases e with e | e
    · exact h1 e
    · exact h2 i hi e
/-- the lines have turned -/
theorem Turn.lines {lb : Nat} {v : Nat → Value} {l2 : Nat → List Nat} (h : Turn w0 w lp mp bp mn mb f B l j) (hL : Lines w0 w lb l2 v) (hb : But (fun q => q = lb ∨ ∃ h, h < 3 ∧ (v h).ownBlock = some q) w w') : Turn w0 w' lp mp bp mn mb f B l j :=
  h.but hb (fun e => (hL.turn h e).2.2.1 rfl) (fun e => (hL.turn h e).2.2.2 rfl) (fun k hk e => (hL.turn h e).1 hk) (fun k hk e => (hL.turn h e).2.1 k hk rfl) (fun k e => hL.ge e)
theorem Lines.grown {lb hh : Nat} {v : Nat → Value} {l2 : Nat → List Nat} (hL : Lines w0 w lb l2 v) (h3 : hh < 3) {A : Option Addr} {n c : Nat} (hv : v hh = .slice A n c) (hg : w.grownBy w' (Value.slice A n c).ownBlock) (o : Nat) (x : Value) : But (fun q => q = lb ∨ ∃ h, h < 3 ∧ (v h).ownBlock = some q) w (w'.setCell ⟨lb, o, none⟩ x) :=
  But.set (S := fun q => q = lb ∨ ∃ h, h < 3 ∧ (v h).ownBlock = some q) ⟨hg.os, hg.tape, hg.output, hg.size, fun q hq hn => hg.block q hq (fun e => hn (.inr ⟨hh, h3, by rw [hv]; exact e.symm⟩))⟩ ⟨lb, o, none⟩ x (.inl rfl)
end
end Go.Proofs.Ytkdiibgjkipdnaa
