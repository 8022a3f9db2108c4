/-
  LocksJoin: what holds between the steps.
-/
import Derived.Test.YtkdiibgjkipdnaaLkO
namespace Go.Proofs.Ytkdiibgjkipdnaa
open Go.RowKit Go.Maps
set_option linter.unusedSimpArgs false
set_option linter.unusedVariables false

def pk (c : Int) (n : Nat) : Nat := (if c < 0 then -(c + 1) else c).toNat % n
theorem pk_lt {c : Int} {n : Nat} (h : 0 < n) : pk c n < n := Nat.mod_lt _ h
theorem pick_c (c : Int) (n : Nat) (w : World) (hc : (Lit.int .i64 c).wf = true) (hn : 0 < n) (hn2 : n ≤ 100000) :
    Calls Try.prog 10 #[.int .i64 c, .int .i64 n] w fun e w' => e = .returned (.int .i64 (pk c n : Nat)) ∧ w = w' := by
  have hc' : -9223372036854775808 ≤ c ∧ c ≤ 9223372036854775807 := by simp [Lit.wf, IntKind.min, IntKind.max, IntKind.signed, IntKind.bits] at hc; omega
  have n0 : ¬ (n : Int) = 0 := by omega
  have n1 : ((n : Int) == 0) = false := by simpa using n0
  have n2 : ¬ (n : Int) = -1 := by omega
  by_cases h : c < 0
  · have d0 : decide (c < 0) = true := decide_eq_true h
    have hp : Int.tmod (-(c + 1)) n = (pk c n : Nat) := by
      unfold pk
      rw [if_pos h, Int.tmod_eq_emod_of_nonneg (by omega), Int.natCast_emod, Int.toNat_of_nonneg (by omega)]
    go_enter Try.func10, Try.ntmps10
    go_wp2
    go_ret
    exact ⟨rfl, rfl⟩
  · have d0 : decide (c < 0) = false := decide_eq_false h
    have hp : Int.tmod c n = (pk c n : Nat) := by
      unfold pk
      rw [if_neg h, Int.tmod_eq_emod_of_nonneg (by omega), Int.natCast_emod, Int.toNat_of_nonneg (by omega)]
    go_enter Try.func10, Try.ntmps10
    go_wp2
    go_ret
    exact ⟨rfl, rfl⟩
def hands : List Nd → List Value
  | [] => []
  | x :: l => [.int .u32 x.rc.hs, .int .u32 x.rc.hg] ++ hands l
theorem hands_append (a b : List Nd) : hands (a ++ b) = hands a ++ hands b := by
  induction a with
  | nil => rfl
  | cons x a ih => simp only [List.cons_append, hands, ih, List.append_assoc]
theorem hands_one (x : Nd) : hands [x] = [.int .u32 x.rc.hs, .int .u32 x.rc.hg] := by simp [hands]
theorem hands_at : ∀ {N : List Nd} {i : Nat} {x : Nd}, N[i]? = some x → (hands N)[i * 2]? = some (.int .u32 x.rc.hs) ∧ (hands N)[i * 2 + 1]? = some (.int .u32 x.rc.hg)
  | [], i, x, h => by simp at h
  | y :: N, 0, x, h => by simp at h; subst h; exact ⟨rfl, rfl⟩
  | y :: N, i + 1, x, h => by
    obtain ⟨h1, h2⟩ := hands_at (N := N) (i := i) (x := x) (by simpa using h)
    have e1 : (i + 1) * 2 = i * 2 + 2 := by omega
    rw [e1]
    exact ⟨h1, h2⟩
/-- a slice that the call owns lies in a block of its elements' type -/
theorem own_row {w : World} {base e size n q : Nat} {v : Value} {xs : List Value} (h : w.ownsRow base e size v n xs) (hq : v.ownBlock = some q) : ∃ cs, Row w q e cs := by
  rcases h.2 with ⟨e1, _⟩ | ⟨g, cap, cur, e1, _, e3, _⟩
  · rw [e1] at hq; cases hq
  · rw [e1] at hq
    have : g = q := by simpa [Value.ownBlock] using hq
    subst this
    exact ⟨cur.toList, by unfold Row; rw [e3]⟩
structure Join (w0 w : World) (lp mp bp mn gb : Nat) (f : Int → Int → Value) (B : Bk) (lv : Value) (n : Int) (j : Nat) : Prop where
  lk : LkAt w lp mp bp mn f B
  gr : Row w gb 85 [.int .i64 n]
  line : w.ownsRow w0.heap.size 35 2 lv B.N.length (hands B.N)
  n0 : 0 ≤ n ∧ n ≤ 2147483647
  nz : n = 0 → B.N = []
  key : ∀ x ∈ B.N, x.rc.key = ⟨1, 1, 4⟩
  who : ∀ x ∈ B.N, x.rc.hg = 1 ∧ ∃ k : Nat, k < 6 ∧ x.rc.hs = 11 + (k : Int)
  ap : Apart B.N
  ser : ∀ x ∈ B.N, 0 ≤ x.ser
  few : B.gens.length ≤ j ∧ B.put ≤ j ∧ B.mn ≤ j ∧ B.N.length ≤ j
  bel : Below w0.heap.size w0 w
  up : ∀ k, B.own bp k → w0.heap.size ≤ k
  lo : w0.heap.size ≤ gb
section
variable {w0 w w' : World} {lp mp bp mn gb : Nat} {f : Int → Int → Value} {B : Bk} {lv : Value} {n : Int} {j : Nat}
theorem Join.below (h : Join w0 w lp mp bp mn gb f B lv n j) (hb : Below w.heap.size w w') : Join w0 w' lp mp bp mn gb f B lv n j :=
  ⟨h.lk.below hb, h.gr.below hb h.gr.lt, own_move h.line fun g hg => hb.block g (h.line.lt g hg).2, h.n0, h.nz, h.key, h.who, h.ap, h.ser, h.few, h.bel.trans (hb.mono h.bel.size), h.up, h.lo⟩
theorem Join.more (h : Join w0 w lp mp bp mn gb f B lv n j) : Join w0 w lp mp bp mn gb f B lv n (j + 1) :=
  ⟨h.lk, h.gr, h.line, h.n0, h.nz, h.key, h.who, h.ap, h.ser, by obtain ⟨a, b, c, d⟩ := h.few; exact ⟨by omega, by omega, by omega, by omega⟩, h.bel, h.up, h.lo⟩
theorem Join.line_book (h : Join w0 w lp mp bp mn gb f B lv n j) : ∀ q, lv.ownBlock = some q → ¬ B.own bp q := fun q hq => by
  obtain ⟨cs, hr⟩ := own_row h.line hq
  exact h.lk.book.mem.not_own hr (by decide)
theorem Join.line_gb (h : Join w0 w lp mp bp mn gb f B lv n j) : ∀ q, lv.ownBlock = some q → q ≠ gb := fun q hq => by
  obtain ⟨cs, hr⟩ := own_row h.line hq
  exact hr.ne h.gr (by decide)
theorem Join.gb_book (h : Join w0 w lp mp bp mn gb f B lv n j) : ¬ B.own bp gb := h.lk.book.mem.not_own h.gr (by decide)
/-- the counter turns, nobody is woken -/
theorem Join.count (h : Join w0 w lp mp bp mn gb f B lv n j) {n' : Int} (hr : Row w' gb 85 [.int .i64 n']) (hb : But (fun k => k = gb) w w') (hn : 0 < n' ∧ n' ≤ 2147483647) : Join w0 w' lp mp bp mn gb f B lv n' j :=
  ⟨h.lk.but h.gr (by decide) (by decide) hb, hr, own_move h.line fun g hg => hb.block g (h.line.lt g hg).2 (h.line_gb g hg), ⟨by omega, hn.2⟩, fun e => by omega, h.key, h.who, h.ap, h.ser, h.few, But.below h.bel hb h.bel.size fun k e => by rw [e]; exact h.lo, h.up, h.lo⟩
/-- all are woken -/
theorem Join.join (h : Join w0 w lp mp bp mn gb f B lv n j) (hl : LkAt w' lp mp bp mn f (B.from B.N.length)) (hr : Row w' gb 85 [.int .i64 0]) (hb : But (fun k => B.own bp k ∨ k = gb) w w') : Join w0 w' lp mp bp mn gb f (B.from B.N.length) (.slice none 0 0) 0 j := by
  have hN : (B.from B.N.length).N = [] := List.drop_eq_nil_of_le (Nat.le_refl _)
  obtain ⟨a, b, c, d⟩ := h.few
  refine ⟨hl, hr, ?_, by omega, fun _ => hN, ?_, ?_, ?_, ?_, ⟨a, b, c, by rw [hN]; exact Nat.zero_le _⟩, But.below h.bel hb h.bel.size ?_, fun k hk => h.up k (Bk.from_own hk), h.lo⟩
  · rw [hN]; exact World.ownsRow_nil _ _ _ _
  · intro x hx; rw [hN] at hx; cases hx
  · intro x hx; rw [hN] at hx; cases hx
  · unfold Apart; rw [hN]; exact List.Pairwise.nil
  · intro x hx; rw [hN] at hx; cases hx
  · rintro k (e | e)
    · exact h.up k e
    · rw [e]; exact h.lo
/-- one more waits: its handle is laid behind the line -/
theorem Join.park {B' : Bk} {x : Nd} {k : Nat} {w2 : World} {lv2 : Value} (h : Join w0 w lp mp bp mn gb f B lv n j) (hp : Parks w bp B ⟨1, 1, 4⟩ (11 + (k : Int)) 1 w' B' x) (hk : k < 6) (hno : ∀ x ∈ B.N, sameH x.rc.hs x.rc.hg (11 + (k : Int)) 1 = false) (hn : 0 < n)
    (ho : w2.ownsRow w0.heap.size 35 2 lv2 (B.N.length + 1) (hands B.N ++ [.int .u32 (11 + (k : Int)), .int .u32 1])) (hg : w'.grownBy w2 lv.ownBlock) : Join w0 w2 lp mp bp mn gb f B' lv2 n (j + 1) := by
  obtain ⟨a, b, c, d⟩ := h.few
  have hsz := hp.bk.but.size
  have hb2 : But (fun k => B.own bp k ∨ lv.ownBlock = some k) w w2 := ⟨hg.os.trans hp.bk.but.os, hg.tape.trans hp.bk.but.tape, hg.output.trans hp.bk.but.output, Nat.le_trans hsz hg.size, fun q hq hn => (hg.block q (Nat.lt_of_lt_of_le hq hsz) (fun e => hn (.inr e.symm))).trans (hp.bk.but.block q hq (fun e => hn (.inl e)))⟩
  have hnew : ∀ q, B'.own bp q → lv.ownBlock ≠ some q := fun q hq e => by
    rcases hp.bk.own q hq with e2 | e2
    · exact h.line_book q e e2
    · have := (h.line.lt q e).2; omega
  have hlk := h.lk.to hp.bk
  have hlk2 : LkAt w2 lp mp bp mn f B' := by
    have hbg : But (fun k => lv.ownBlock = some k) w' w2 := ⟨hg.os, hg.tape, hg.output, hg.size, fun q hq hn => hg.block q hq (fun e => hn e.symm)⟩
    refine hlk.but2 hbg (fun e => ?_) (fun e => ?_) fun q hq e => hnew q hq e
    · obtain ⟨cs, hr⟩ := own_row h.line e
      exact hr.ne h.lk.obj (by decide) rfl
    · obtain ⟨cs, hr⟩ := own_row h.line e
      exact h.lk.map_ne hr rfl
  have hN : B'.N.length = B.N.length + 1 := by rw [hp.N, List.length_append]; rfl
  refine ⟨hlk2, hb2.row h.gr (fun e => e.elim h.gb_book (fun e => h.line_gb gb e rfl)), ?_, h.n0, fun e => by omega, ?_, ?_, ?_, ?_, ⟨Nat.le_trans hp.gens (by omega), by rw [hp.put]; omega, Nat.le_trans hp.mn (by omega), by omega⟩, ?_, ?_, h.lo⟩
  · rw [hN, hp.N, hands_append, hands_one, hp.hs, hp.hg]; exact ho
  · intro y hy
    rw [hp.N] at hy
    rcases List.mem_append.1 hy with e | e
    · exact h.key y e
    · rw [List.mem_singleton.1 e]; exact hp.key
  · intro y hy
    rw [hp.N] at hy
    rcases List.mem_append.1 hy with e | e
    · exact h.who y e
    · rw [List.mem_singleton.1 e]; exact ⟨hp.hg, k, hk, hp.hs⟩
  · unfold Apart
    rw [hp.N, List.pairwise_append]
    refine ⟨h.ap, by simp, fun y hy z hz => ?_⟩
    rw [List.mem_singleton.1 hz, hp.hs, hp.hg]
    have := hno y hy
    rw [← Bool.not_eq_true] at this ⊢
    exact fun e => this (by have := sameH_iff.1 e; exact sameH_iff.2 ⟨this.1.symm, this.2.symm⟩)
  · intro y hy
    rw [hp.N] at hy
    rcases List.mem_append.1 hy with e | e
    · exact h.ser y e
    · rw [List.mem_singleton.1 e, hp.ser]; have := h.lk.book.ok.fewp; omega
  · refine But.below h.bel hb2 h.bel.size ?_
    rintro q (e | e)
    · exact h.up q e
    · exact (h.line.lt q e).1
  · intro q hq
    rcases hp.bk.own q hq with e | e
    · exact h.up q e
    · exact Nat.le_trans h.bel.size e
end
end Go.Proofs.Ytkdiibgjkipdnaa
