/-
  LocksTurn: a script opened; Lock in one word.
-/
import Derived.Test.YtkdiibgjkipdnaaLkR
namespace Go.Proofs.Ytkdiibgjkipdnaa
open Go.RowKit Go.Maps Go.ChangeShapes Go.WideShapes Go.Deep
set_option linter.unusedSimpArgs false
set_option linter.unusedVariables false

/-- what has become of a Lock -/
def LkEnd (w : World) (bp gb : Nat) (B : Bk) (k : Key) (a b hs hg : Int) (b1 : Bool) (w' : World) : Prop := if b1 = true then Below w.heap.size w w' else LEnd w bp gb B k a b hs hg w'
section
variable {w w1 w' w'' : World} {bp gb : Nat} {B : Bk} {k : Key} {a b hs hg : Int} {b1 : Bool}
theorem LkEnd.but (h : LkEnd w bp gb B k a b hs hg b1 w') : But (fun q => B.own bp q ∨ q = gb) w w' := by
  unfold LkEnd LEnd at h
  split at h
  · exact But.of_below h _
  · split at h
    · exact h.2.weaken fun k hk => .inr hk
    · obtain ⟨B', x, hp⟩ := h; exact hp.bk.but.weaken fun k hk => .inl hk
theorem LkEnd.pre (hb : Below w.heap.size w w1) (hB : BookAt w bp B) (h : LkEnd w1 bp gb B k a b hs hg b1 w') : LkEnd w bp gb B k a b hs hg b1 w' := by
  unfold LkEnd LEnd at h ⊢
  split
  · rename_i hc
    rw [if_pos hc] at h
    exact hb.trans (h.mono hb.size)
  · rename_i hc
    rw [if_neg hc] at h
    split
    · rename_i hd
      rw [if_pos hd] at h
      exact ⟨h.1, (But.of_below hb _).trans h.2⟩
    · rename_i hd
      rw [if_neg hd] at h
      obtain ⟨B', x, hp⟩ := h
      exact ⟨B', x, hp.to (BookTo.after hb hB hp.bk)⟩
theorem LkEnd.post (h : LkEnd w bp gb B k a b hs hg b1 w') (hb : Below w'.heap.size w' w'') : LkEnd w bp gb B k a b hs hg b1 w'' := by
  have hsz := h.but.size
  unfold LkEnd LEnd at h ⊢
  split
  · rename_i hc
    rw [if_pos hc] at h
    exact h.trans (hb.mono hsz)
  · rename_i hc
    rw [if_neg hc] at h
    split
    · rename_i hd
      rw [if_pos hd] at h
      exact ⟨h.1.below hb h.1.lt, h.2.trans (But.of_below hb _)⟩
    · rename_i hd
      rw [if_neg hd] at h
      obtain ⟨B', x, hp⟩ := h
      exact ⟨B', x, hp.to (hp.bk.then hb)⟩
theorem LkEnd.store6 (hgb : gb < w.heap.size) (h : LkEnd w bp gb B k a b hs hg b1 w') {z : Nat} {vs : List Value} (hz : w.heap.size ≤ z) (hr : Row w' z 46 vs) (v0 v1 v2 v3 v4 v5 : Value) :
    LkEnd w bp gb B k a b hs hg b1 ((((((w'.setCell ⟨z, 0, none⟩ v0).setCell ⟨z, 1, none⟩ v1).setCell ⟨z, 2, none⟩ v2).setCell ⟨z, 3, none⟩ v3).setCell ⟨z, 4, none⟩ v4).setCell ⟨z, 5, none⟩ v5) := by
  unfold LkEnd LEnd at h ⊢
  split
  · rename_i hc
    rw [if_pos hc] at h
    exact below_store6 h hz _ _ _ _ _ _
  · rename_i hc
    rw [if_neg hc] at h
    split
    · rename_i hd
      rw [if_pos hd] at h
      exact ⟨(But.only6 w' z v0 v1 v2 v3 v4 v5).row h.1 (by omega), h.2.store6New hz _ _ _ _ _ _⟩
    · rename_i hd
      rw [if_neg hd] at h
      obtain ⟨B', x, hp⟩ := h
      exact ⟨B', x, hp.to (hp.bk.store6 hz (hp.bk.at_.mem.not_own hr (by decide)) _ _ _ _ _ _)⟩
end
theorem no_mb {w0 w' : World} {lp mp bp mn z j i : Nat} {mb : Nat → Nat} {f : Int → Int → Value} {B : Bk} {l : Nat → List Nat} {vs : List Value} (hr : Row w' z 46 vs) (ht : Turn w0 w' lp mp bp mn mb f B l j) (hi : i < 3) : ¬ (B.own bp z ∨ z = mb i) := by
  rintro (e | e)
  · exact ht.lk.book.mem.not_own hr (by decide) e
  · exact hr.ne (ht.gr i hi) (by decide) e
theorem lock_c (lp mp bp mn : Nat) (f : Int → Int → Value) (B : Bk) (s g gs gg : Int) (gb : Nat) (a b : Int) (b1 : Bool) (w : World) (h : LkAt w lp mp bp mn f B) (hs : (Lit.int .u32 s).wf = true) (hg : (Lit.int .u32 g).wf = true) (hgs : (Lit.int .u32 gs).wf = true) (hgg : (Lit.int .u32 gg).wf = true)
    (hf : f s g = mutexV gb) (hr : Row w gb 82 [.int .u32 a, .int .u32 b]) (hz : sameH gs gg 0 0 = false) (hz2 : sameH s g 0 0 = false) (hser : ∀ x ∈ B.N, 0 ≤ x.ser) (hb1 : (B.N.any fun x => sameH x.rc.hs x.rc.hg gs gg) = b1)
    (hgl : B.gens.length ≤ 99999) (hpl : B.put ≤ 99999) (hml : B.mn ≤ 99999) (hnl : B.N.length ≤ 99999) :
    Calls Try.prog 11 #[.pointer (some ⟨lp, 0, none⟩), .agg #[.int .u32 gs, .int .u32 gg], .agg #[.int .u32 s, .int .u32 g]] w fun e w' =>
      e = .returned (.tuple #[didV (if b1 = false ∧ sameH a b 0 0 = false then 1 else 0) (.slice none 0 0), .int .i64 (if b1 then 163 else 0)]) ∧ LkEnd w bp gb B ⟨s, g, 3⟩ a b gs gg b1 w' := by
  cases b1 with
  | true =>
    obtain ⟨x, hx, e⟩ := List.any_eq_true.1 hb1
    refine (lockNo_c lp mp bp mn f B s g gs gg w h hser (may_yes hz hx e)).mono ?_
    rintro e w' ⟨rfl, hb⟩
    exact ⟨rfl, by unfold LkEnd; rw [if_pos rfl]; exact hb⟩
  | false =>
    have hno : ∀ x ∈ B.N, sameH x.rc.hs x.rc.hg gs gg = false := fun x hx => by
      rw [List.any_eq_false] at hb1; have := hb1 x hx; simpa using this
    refine (lockIn_c lp mp bp mn f B s g gs gg gb a b w h hs hg hgs hgg hf hr hz hz2 hser hno hgl hpl hml hnl).mono ?_
    rintro e w' ⟨rfl, hl⟩
    refine ⟨?_, by unfold LkEnd; rw [if_neg (by decide)]; exact hl⟩
    cases hab : sameH a b 0 0 with
    | true => rw [if_pos rfl, if_neg (by simp)]; rfl
    | false => rw [if_neg (by decide), if_pos ⟨rfl, rfl⟩]; rfl
structure Stp where
  d : Int
  g : Int
  h : Int
instance : Inhabited Stp := ⟨⟨0, 0, 0⟩⟩
def Stp.cells (o : Stp) : List Value := [.int .i64 o.d, .int .i64 o.g, .int .i64 o.h]
structure Stp.Ok (o : Stp) : Prop where
  d : (Lit.int .i64 o.d).wf = true
  g : (Lit.int .i64 o.g).wf = true
  h : (Lit.int .i64 o.h).wf = true
/-- a script in memory -/
structure Steps (w : World) (A : Option Addr) (n : Nat) (os : List Stp) : Prop where
  len : os.length = n
  at_ : ∀ i o, os[i]? = some o → ∃ ad, A = some ad ∧ ∀ k u, o.cells[k]? = some u → w.cell? (ad.add (i * 3 + k)) = some u
  ok : ∀ o ∈ os, o.Ok
section
variable {H : Type} {enc : TypeId × Value → H} {W : World} {base : Nat} {spare : Nat → Bool} {held : Bool}
set_option maxRecDepth 100000
theorem step_inner {n : Nat} {cs : List Value} {d : DataW H} {ps : List MemPlace} (h : DataW.trod enc Try.prog W base spare held n 40 cs = some (d, ps)) : ∃ o : Stp, cs = o.cells ∧ o.Ok := by
  obtain ⟨xs, m, _, hx, hlen, hxl, hf⟩ := DataW.trod_struct Try.underlying40 h
  rw [show Try.prog.cellsOf 40 = 3 by kernel_rfl] at hlen
  match cs, hlen with
  | [v0, v1, v2], _ =>
    have f0 : DataW.trod enc Try.prog W base spare held m 3 (List.take (Try.prog.cellsOf 3) (List.drop 0 [v0, v1, v2])) = xs[0]? := hf 0 _ rfl
    have f1 : DataW.trod enc Try.prog W base spare held m 3 (List.take (Try.prog.cellsOf 3) (List.drop 1 [v0, v1, v2])) = xs[1]? := hf 1 _ rfl
    have f2 : DataW.trod enc Try.prog W base spare held m 3 (List.take (Try.prog.cellsOf 3) (List.drop 2 [v0, v1, v2])) = xs[2]? := hf 2 _ rfl
    rw [show Try.prog.cellsOf 3 = 1 by kernel_rfl] at f0
    rw [show Try.prog.cellsOf 3 = 1 by kernel_rfl] at f1
    rw [show Try.prog.cellsOf 3 = 1 by kernel_rfl] at f2
    match xs, hxl with
    | [y0, y1, y2], _ =>
      obtain ⟨d1, e0, _, q0⟩ := DataW.trod_int Try.underlying3 f0
      obtain ⟨g1, e1, _, q1⟩ := DataW.trod_int Try.underlying3 f1
      obtain ⟨h1, e2, _, q2⟩ := DataW.trod_int Try.underlying3 f2
      simp at e0 e1 e2
      subst e0; subst e1; subst e2
      exact ⟨⟨d1, g1, h1⟩, rfl, ⟨q0, q1, q2⟩⟩
theorem steps_open {a : Option Addr} {len cap : Nat} {d : DataW H} {ps : List MemPlace}
    (h : DataW.Trod enc Try.prog W base spare held 22 (.slice a len cap) d ps) : ∃ os : List Stp, Steps W a len os := by
  obtain ⟨fuel, hf⟩ := h
  rcases open_slice Try.underlying22 hf with ⟨hcs, _⟩ | ⟨x, l, c, m, n, D, Pl, hcs, _, hlc, _, hm, hx, hi⟩
  · simp [Value.cells] at hcs
    obtain ⟨rfl, rfl, rfl⟩ := hcs
    exact ⟨[], rfl, fun i o h0 => by simp at h0, fun o h0 => by cases h0⟩
  · simp [Value.cells] at hcs
    obtain ⟨rfl, rfl, rfl⟩ := hcs
    obtain ⟨hx, _⟩ := Prod.mk.inj hx
    subst hx
    have hlm : len ≤ m := by rw [hm]; split <;> omega
    have hV : ∀ i, i < len → ∃ o : Stp, (∀ k u, o.cells[k]? = some u → W.cell? (x.add (i * 3 + k)) = some u) ∧ o.Ok := by
      intro i hil
      obtain ⟨cs, hc, hd⟩ := hi i (by omega)
      rw [show Try.prog.cellsOf 40 = 3 by kernel_rfl] at hc
      obtain ⟨_, _, hcell⟩ := World.cells?_some hc
      obtain ⟨o, hs, hz⟩ := step_inner hd
      subst hs
      refine ⟨o, fun k u hu => ?_, hz⟩
      have hk : k < 3 := (List.getElem?_eq_some_iff.1 hu).1
      have := hcell k hk
      rw [addr_add] at this
      rw [this]; exact hu
    obtain ⟨f, hf2⟩ := choose_lt' hV
    refine ⟨(List.range len).map f, by simp, fun i o ho => ⟨x, rfl, ?_⟩, fun o ho => ?_⟩
    · have hlt := (List.getElem?_eq_some_iff.1 ho).1
      simp at hlt
      rw [List.getElem?_map, List.getElem?_range hlt] at ho
      simp at ho
      subst ho
      exact (hf2 i hlt).1
    · obtain ⟨i, hi1, rfl⟩ := List.mem_map.1 ho
      exact (hf2 i (List.mem_range.1 hi1)).2
end
end Go.Proofs.Ytkdiibgjkipdnaa
