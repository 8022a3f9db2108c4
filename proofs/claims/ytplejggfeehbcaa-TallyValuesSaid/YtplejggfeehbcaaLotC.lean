/-
  Lots in memory: a slice of lots, its clone.
-/
import Derived.Test.YtplejggfeehbcaaLotB
import Derived.Deep.RegionHeld3
namespace Go.Proofs.Ytplejggfeehbcaa
open Go.RowKit
set_option linter.unusedSimpArgs false

/-- a lot as it lies in memory -/
structure Raw where
  p : Int
  A : Option Addr
  k : Nat
  c : Nat
def Raw.sl (r : Raw) : Value := .slice r.A r.k r.c
def rawCells : List Raw → List Value
  | [] => []
  | r :: rs => .int .i64 r.p :: r.sl :: rawCells rs
theorem rawCells_len (rs : List Raw) : (rawCells rs).length = rs.length * 2 := by
  induction rs with
  | nil => rfl
  | cons r rs ih => simp only [rawCells, List.length_cons, ih]; omega
theorem rawCells_p : ∀ (rs : List Raw) (i : Nat) (r : Raw), rs[i]? = some r → (rawCells rs)[2 * i]? = some (.int .i64 r.p)
  | [], i, r, h => by simp at h
  | x :: rs, 0, r, h => by simp at h; subst h; rfl
  | x :: rs, i + 1, r, h => by
    rw [show 2 * (i + 1) = 2 * i + 2 by omega]
    exact rawCells_p rs i r h
theorem rawCells_s : ∀ (rs : List Raw) (i : Nat) (r : Raw), rs[i]? = some r → (rawCells rs)[2 * i + 1]? = some r.sl
  | [], i, r, h => by simp at h
  | x :: rs, 0, r, h => by simp at h; subst h; rfl
  | x :: rs, i + 1, r, h => by
    rw [show 2 * (i + 1) + 1 = 2 * i + 1 + 2 by omega]
    exact rawCells_s rs i r h
theorem rawCells_append (a b : List Raw) : rawCells (a ++ b) = rawCells a ++ rawCells b := by
  induction a with
  | nil => rfl
  | cons x a ih => simp only [List.cons_append, rawCells, ih]
theorem rawCells_one (rs : List Raw) : ∀ v ∈ rawCells rs, v.oneCell' = true := by
  induction rs with
  | nil => intro v hv; cases hv
  | cons r rs ih =>
    intro v hv
    rcases List.mem_cons.1 hv with rfl | hv
    · rfl
    · rcases List.mem_cons.1 hv with rfl | hv
      · rfl
      · exact ih v hv
/-- the i-th one's weights are others -/
theorem rawCells_set (a b : List Raw) (x y : Raw) (h : x.p = y.p) (rest : List Value) : (rawCells (a ++ x :: b) ++ rest).set (2 * a.length + 1) y.sl = rawCells (a ++ y :: b) ++ rest := by
  rw [rawCells_append, rawCells_append, List.append_assoc, List.append_assoc, List.set_append_right _ _ (by rw [rawCells_len]; omega), rawCells_len]
  rw [show 2 * a.length + 1 - a.length * 2 = 1 by omega]
  simp only [rawCells, List.cons_append, List.set_cons_succ, List.set_cons_zero, h]

abbrev Lot := Int × List Nat
/-- what lots in memory stand for; their weights lie in blocks of which Q holds -/
structure Lts (w : World) (Q : Nat → Prop) (rs : List Raw) (L : List Lot) : Prop where
  len : rs.length = L.length
  p : ∀ (i : Nat) (r : Raw) (l : Lot), rs[i]? = some r → L[i]? = some l → r.p = l.1 ∧ -9223372036854775808 ≤ l.1 ∧ l.1 ≤ 9223372036854775807
  ws : ∀ (i : Nat) (r : Raw) (l : Lot), rs[i]? = some r → L[i]? = some l → Fs w r.A r.k l.2 ∧ r.k ≤ r.c ∧ (r.A = none → r.k = 0 ∧ r.c = 0) ∧ r.k ≤ 17592186044300 ∧ ∀ ad, r.A = some ad → Q ad.block
theorem Lts.below {w w' : World} {Q : Nat → Prop} {rs : List Raw} {L : List Lot} (h : Lts w Q rs L) (hb : Below w.heap.size w w') : Lts w' Q rs L :=
  ⟨h.len, h.p, fun i r l h1 h2 => by
    obtain ⟨a, b⟩ := h.ws i r l h1 h2
    exact ⟨a.below hb, b⟩⟩
theorem Lts.weaken {w : World} {Q Q' : Nat → Prop} {rs : List Raw} {L : List Lot} (h : Lts w Q rs L) (hq : ∀ k, Q k → Q' k) : Lts w Q' rs L :=
  ⟨h.len, h.p, fun i r l h1 h2 => by
    obtain ⟨a, b, c, d, e⟩ := h.ws i r l h1 h2
    exact ⟨a, b, c, d, fun ad he => hq _ (e ad he)⟩⟩
theorem Lts.set_far {w : World} {Q : Nat → Prop} {rs : List Raw} {L : List Lot} (h : Lts w Q rs L) (q : Addr) (v : Value) (hq : ¬ Q q.block) : Lts (w.setCell q v) Q rs L :=
  ⟨h.len, h.p, fun i r l h1 h2 => by
    obtain ⟨a, b, c, d, e⟩ := h.ws i r l h1 h2
    exact ⟨a.set_far q v (fun ad he hb => hq (hb ▸ e ad he)), b, c, d, e⟩⟩
theorem Lts.grown {w w' : World} {b : Nat} {Q : Nat → Prop} {rs : List Raw} {L : List Lot} (h : Lts w Q rs L) (hg : w.grownBy w' (some b)) (hq : ¬ Q b) : Lts w' Q rs L :=
  ⟨h.len, h.p, fun i r l h1 h2 => by
    obtain ⟨a, b, c, d, e⟩ := h.ws i r l h1 h2
    exact ⟨a.grown hg (fun ad he hb => hq (by cases hb; exact e ad he)), b, c, d, e⟩⟩
theorem Lts.nil (w : World) (Q : Nat → Prop) : Lts w Q [] [] := ⟨rfl, fun i r l h => by simp at h, fun i r l h => by simp at h⟩
theorem Lts.snoc {w : World} {Q : Nat → Prop} {rs : List Raw} {L : List Lot} (h : Lts w Q rs L) (r : Raw) (l : Lot) (hp : r.p = l.1 ∧ -9223372036854775808 ≤ l.1 ∧ l.1 ≤ 9223372036854775807)
    (hw : Fs w r.A r.k l.2 ∧ r.k ≤ r.c ∧ (r.A = none → r.k = 0 ∧ r.c = 0) ∧ r.k ≤ 17592186044300 ∧ ∀ ad, r.A = some ad → Q ad.block) : Lts w Q (rs ++ [r]) (L ++ [l]) :=
  by
  have key : ∀ (i : Nat) (x : Raw) (y : Lot), (rs ++ [r])[i]? = some x → (L ++ [l])[i]? = some y → (rs[i]? = some x ∧ L[i]? = some y) ∨ (x = r ∧ y = l) := by
    intro i x y h1 h2
    by_cases hi : i < rs.length
    · rw [List.getElem?_append_left hi] at h1
      rw [List.getElem?_append_left (by rw [← h.len]; exact hi)] at h2
      exact .inl ⟨h1, h2⟩
    · rw [List.getElem?_append_right (by omega)] at h1
      rw [List.getElem?_append_right (by rw [← h.len]; omega), ← h.len] at h2
      rcases Nat.eq_zero_or_pos (i - rs.length) with h0 | h0
      · rw [h0] at h1 h2
        exact .inr ⟨(Option.some.inj h1).symm, (Option.some.inj h2).symm⟩
      · rw [List.getElem?_eq_none (by simp; omega)] at h1
        cases h1
  refine ⟨by simp [h.len], fun i x y h1 h2 => ?_, fun i x y h1 h2 => ?_⟩
  · rcases key i x y h1 h2 with ⟨a, b⟩ | ⟨rfl, rfl⟩
    · exact h.p i x y a b
    · exact hp
  · rcases key i x y h1 h2 with ⟨a, b⟩ | ⟨rfl, rfl⟩
    · exact h.ws i x y a b
    · exact hw

/-- a slice whose cells read so -/
def Cs (w : World) (M : Option Addr) (vs : List Value) : Prop := 0 < vs.length → ∃ ad, M = some ad ∧ ∀ j, j < vs.length → w.cell? (ad.add j) = vs[j]?
theorem Cs.below {w w' : World} {M : Option Addr} {vs : List Value} (h : Cs w M vs) (hb : Below w.heap.size w w') : Cs w' M vs := fun h0 => by
  obtain ⟨ad, e, hc⟩ := h h0
  refine ⟨ad, e, fun j hj => ?_⟩
  have h1 := hc j hj
  rw [List.getElem?_eq_getElem hj] at h1 ⊢
  rw [hb.cell (p := ad.add j) (cell_lt h1)]
  exact h1

theorem infoL : (Try.prog.info? 52).map (fun i => (i.zero, i.size, i.bytes)) = some (some (.agg #[.int .i64 0, .slice none 0 0]), 2, 32) := by kernel_rfl

set_option maxRecDepth 100000 in
/-- 'append([]E{}, s...)' of lots -/
theorem cloneL_c (M : Option Addr) (n c : Nat) (rs : List Raw) (w : World) (h : Cs w M (rawCells rs)) (hl : rs.length = n) (hM : M = none → n = 0 ∧ c = 0) (hn : n * 32 ≤ 140737488351232) :
    Calls Try.prog 100 #[.slice M n c] w fun e w' => ∃ v, e = .returned v ∧ w'.ownsRow w.heap.size 52 2 v n (rawCells rs) ∧ Below w.heap.size w w' := by
  obtain ⟨i0, hi, hz0, hz1, hz2⟩ := info_parts infoL
  have HL := Lib.hid hl
  have q1 : ∀ (w : World) (a : Option Addr) (n c n' c' : Nat), (binOp .eql 56 (.slice a n c) (.slice none n' c')).run Try.prog w = .ok (.bool a.isNone) w := fun w a n c n' c' => Lib.run_eql_slice_nil w _ _ a n c n' c' Try.underlying56
  cases hMc : M with
  | none =>
    obtain ⟨h0, h1⟩ := hM hMc
    subst h0
    subst h1
    have hx : rs = [] := List.eq_nil_of_length_eq_zero hl
    have HX := Lib.hid hx
    clear hx h hM hMc hl
    go_enter Try.func100, Try.ntmps100
    go_wp2
    go_ret
    exact ⟨_, rfl, by rw [HX.out]; exact World.ownsRow_nil _ _ _ _, Below.refl _ _⟩
  | some ad =>
    subst hMc
    have HF := Lib.hid h
    clear h hM hl
    go_enter Try.func100, Try.ntmps100
    go_wp2_with (first
      | (at_builtin; refine wpList_append_own _ rfl _ _ 56 rfl w.heap.size 52 i0 (.agg #[.int .i64 0, .slice none 0 0]) 2 32 Try.underlying56 hi hz0 hz1 hz2 rfl (by decide) _ 0 [] rfl ?c0 ad n c (rawCells rs) rfl ?cl ?c1 ?c2 ?c3 ?c4 ?c5 ?_)
      | go_in)
    case c0 => exact World.ownsRow_made w #[] 0 (Nat.le_refl _) (by decide) rfl
    case cl => rw [rawCells_len, HL.out]
    case c1 =>
      intro j u hj
      have hjn := (List.getElem?_eq_some_iff.1 hj).1
      obtain ⟨a2, e2, hc⟩ := HF.out (by omega)
      cases e2
      have h1 := (hc j hjn).trans hj
      exact (((Below.refl w.heap.size w).alloc (Nat.le_refl _) _).cell (p := ad.add j) (cell_lt h1)).trans h1
    case c2 => exact rawCells_one rs
    case c3 => unfold maxLen; omega
    case c4 => omega
    case c5 => simp
    intro v' w1 hown' hgrow _
    have HO1 := Lib.hid hown'
    have HB1 : Hid (Below w.heap.size w w1) := Lib.hid (((Below.refl w.heap.size w).alloc (Nat.le_refl _) _).grown hgrow (by show _ ≤ (w.heap.push _).size; rw [Array.size_push]; omega) (fun k hk => by simp [Value.ownBlock] at hk; omega))
    clear hown' hgrow
    go_wp2
    go_ret
    exact ⟨_, rfl, HO1.out, HB1.out⟩

theorem clone_fs {A : Option Addr} {n c : Nat} {xs : List Nat} {w : World} (h : Fs w A n xs) (hA : A = none → n = 0 ∧ c = 0) (hn : n ≤ 17592186044300) :
    Calls Try.prog 99 #[.slice A n c] w fun e w' => ∃ A' c', e = .returned (.slice A' n c') ∧ (Fs w' A' n xs ∧ n ≤ c' ∧ (A' = none → n = 0 ∧ c' = 0) ∧ (∀ ad, A' = some ad → w.heap.size ≤ ad.block ∧ ad.block < w'.heap.size) ∧ Below w.heap.size w w') :=
  (cloneF_c A n c xs w h hA (by omega)).mono fun e w' ⟨v, he, ho, hb⟩ => by
    obtain ⟨A', c', e1, hF, hc, hA'⟩ := owned_fs ho h.bits (by omega)
    refine ⟨A', c', by rw [he, e1], hF, hc, ?_, ?_, hb⟩
    · intro e2
      subst e2
      rcases ho.2 with ⟨e3, e4⟩ | ⟨g, cap, cur, e3, _⟩
      · rw [e1] at e3; cases e3; exact ⟨e4, rfl⟩
      · rw [e1] at e3; cases e3
    · intro ad e2
      have := ho.lt ad.block (by rw [e1, e2]; rfl)
      exact ⟨this.1, this.2⟩

/-- what a slice that owns lots reads as -/
theorem owned_lots {w : World} {base e : Nat} {v : Value} {n : Nat} {rs : List Raw} (h : w.ownsRow base e 2 v n (rawCells rs)) :
    (v = .slice none 0 0 ∧ n = 0) ∨ ∃ g cap rest, v = .slice (some ⟨g, 0, none⟩) n cap ∧ base ≤ g ∧ Row w g e (rawCells rs ++ rest) ∧ n ≤ cap := by
  rcases h.2 with ⟨rfl, rfl⟩ | ⟨g, cap, cur, rfl, hg, hgg, hnc, _, _, htake⟩
  · exact .inl ⟨rfl, rfl⟩
  · refine .inr ⟨g, cap, cur.toList.drop (n * 2), rfl, hg, ?_, hnc⟩
    unfold Row
    rw [hgg]
    congr 1
    rw [← htake, List.take_append_drop]
theorem clone_lots {M : Option Addr} {n c : Nat} {rs : List Raw} {w : World} (h : Cs w M (rawCells rs)) (hl : rs.length = n) (hM : M = none → n = 0 ∧ c = 0) (hn : n * 32 ≤ 140737488351232) :
    Calls Try.prog 100 #[.slice M n c] w fun e w' => ∃ (A : Option Addr) (cap G : Nat) (rest : List Value), e = .returned (.slice A n cap) ∧ (A = none ∧ n = 0 ∨ A = some ⟨G, 0, none⟩ ∧ w.heap.size ≤ G ∧ Row w' G 52 (rawCells rs ++ rest)) ∧ Below w.heap.size w w' :=
  (cloneL_c M n c rs w h hl hM hn).mono fun _ _ ⟨_, he, ho, hb⟩ => by
    rcases owned_lots ho with ⟨e1, e2⟩ | ⟨g, cap, rest, e1, e2, e3, _⟩
    · exact ⟨none, 0, 0, [], by rw [he, e1, e2], .inl ⟨rfl, e2⟩, hb⟩
    · exact ⟨_, cap, g, rest, by rw [he, e1], .inr ⟨rfl, e2, e3⟩, hb⟩
end Go.Proofs.Ytplejggfeehbcaa
