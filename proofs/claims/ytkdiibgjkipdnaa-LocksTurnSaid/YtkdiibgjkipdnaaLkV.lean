/-
  Wait, Add in one word each; what may follow them.
-/
import Derived.Test.YtkdiibgjkipdnaaLkJ
namespace Go.Proofs.Ytkdiibgjkipdnaa
open Go.RowKit Go.Maps
set_option linter.unusedSimpArgs false
set_option linter.unusedVariables false

theorem But.store6New {S : Nat → Prop} {w w' : World} (h : But S w w') {z : Nat} (hz : w.heap.size ≤ z) (v0 v1 v2 v3 v4 v5 : Value) : But S w ((((((w'.setCell ⟨z, 0, none⟩ v0).setCell ⟨z, 1, none⟩ v1).setCell ⟨z, 2, none⟩ v2).setCell ⟨z, 3, none⟩ v3).setCell ⟨z, 4, none⟩ v4).setCell ⟨z, 5, none⟩ v5) :=
  (((((h.setNew ⟨z, 0, none⟩ _ hz).setNew ⟨z, 1, none⟩ _ hz).setNew ⟨z, 2, none⟩ _ hz).setNew ⟨z, 3, none⟩ _ hz).setNew ⟨z, 4, none⟩ _ hz).setNew ⟨z, 5, none⟩ _ hz
theorem below_store6 {B : Nat} {a w : World} {b : Nat} (h : Below B a w) (hb : B ≤ b) (v0 v1 v2 v3 v4 v5 : Value) : Below B a ((((((w.setCell ⟨b, 0, none⟩ v0).setCell ⟨b, 1, none⟩ v1).setCell ⟨b, 2, none⟩ v2).setCell ⟨b, 3, none⟩ v3).setCell ⟨b, 4, none⟩ v4).setCell ⟨b, 5, none⟩ v5) :=
  (((((h.setCell (p := ⟨b, 0, none⟩) hb _).setCell (p := ⟨b, 1, none⟩) hb _).setCell (p := ⟨b, 2, none⟩) hb _).setCell (p := ⟨b, 3, none⟩) hb _).setCell (p := ⟨b, 4, none⟩) hb _).setCell (p := ⟨b, 5, none⟩) hb _
theorem Parks.to {w w' w2 : World} {bp : Nat} {B B' : Bk} {k : Key} {hs hg : Int} {x : Nd} {w1 : World} (h : Parks w bp B k hs hg w' B' x) (hb : BookTo w1 bp B w2 B') : Parks w1 bp B k hs hg w2 B' x :=
  ⟨hb, h.N, h.ser, h.hs, h.hg, h.key, h.arm, h.put, h.mn, h.gens⟩
/-- what has become of a Wait: one waits, or nothing -/
def WEnd (w : World) (bp : Nat) (B : Bk) (k : Key) (n hs hg : Int) (b1 : Bool) (w' : World) : Prop :=
  if b1 = false ∧ 0 < n then ∃ B' x, Parks w bp B k hs hg w' B' x else Below w.heap.size w w'
section
variable {w w1 w' w'' : World} {bp : Nat} {B : Bk} {k : Key} {n hs hg : Int} {b1 : Bool}
theorem WEnd.but (h : WEnd w bp B k n hs hg b1 w') : But (B.own bp) w w' := by
  unfold WEnd at h
  split at h
  · obtain ⟨B', x, hp⟩ := h; exact hp.bk.but
  · exact But.of_below h _
theorem WEnd.pre (hb : Below w.heap.size w w1) (hB : BookAt w bp B) (h : WEnd w1 bp B k n hs hg b1 w') : WEnd w bp B k n hs hg b1 w' := by
  unfold WEnd at h ⊢
  split
  · rename_i hc
    rw [if_pos hc] at h
    obtain ⟨B', x, hp⟩ := h
    exact ⟨B', x, hp.to (BookTo.after hb hB hp.bk)⟩
  · rename_i hc
    rw [if_neg hc] at h
    exact hb.trans (h.mono hb.size)
theorem WEnd.post (h : WEnd w bp B k n hs hg b1 w') (hb : Below w'.heap.size w' w'') : WEnd w bp B k n hs hg b1 w'' := by
  have hsz := h.but.size
  unfold WEnd at h ⊢
  split
  · rename_i hc
    rw [if_pos hc] at h
    obtain ⟨B', x, hp⟩ := h
    exact ⟨B', x, hp.to (hp.bk.then hb)⟩
  · rename_i hc
    rw [if_neg hc] at h
    exact h.trans (hb.mono hsz)
theorem WEnd.store6 (h : WEnd w bp B k n hs hg b1 w') {z : Nat} {vs : List Value} (hz : w.heap.size ≤ z) (hr : Row w' z 46 vs) (v0 v1 v2 v3 v4 v5 : Value) :
    WEnd w bp B k n hs hg b1 ((((((w'.setCell ⟨z, 0, none⟩ v0).setCell ⟨z, 1, none⟩ v1).setCell ⟨z, 2, none⟩ v2).setCell ⟨z, 3, none⟩ v3).setCell ⟨z, 4, none⟩ v4).setCell ⟨z, 5, none⟩ v5) := by
  unfold WEnd at h ⊢
  split
  · rename_i hc
    rw [if_pos hc] at h
    obtain ⟨B', x, hp⟩ := h
    exact ⟨B', x, hp.to (hp.bk.store6 hz (hp.bk.at_.mem.not_own hr (by decide)) _ _ _ _ _ _)⟩
  · rename_i hc
    rw [if_neg hc] at h
    exact below_store6 h hz _ _ _ _ _ _
end
theorem wakes_at : ∀ {N : List Nd} {i : Nat} {x : Nd}, N[i]? = some x → (wakes N)[i * 8]? = some (.int .u32 x.rc.hs) ∧ (wakes N)[i * 8 + 1]? = some (.int .u32 x.rc.hg)
  | [], i, x, h => by simp at h
  | y :: N, 0, x, h => by simp at h; subst h; exact ⟨rfl, rfl⟩
  | y :: N, i + 1, x, h => by
    obtain ⟨h1, h2⟩ := wakes_at (N := N) (i := i) (x := x) (by simpa using h)
    have e1 : (i + 1) * 8 = i * 8 + 8 := by omega
    rw [e1]
    exact ⟨h1, h2⟩
theorem infoHand : (Try.prog.info? 35).map (fun i => (i.zero, i.size, i.bytes)) = some (some (.agg #[.int .u32 0, .int .u32 0]), 2, 8) := by kernel_rfl
theorem no_gb {w0 w' : World} {lp mp bp mn gb z j : Nat} {f : Int → Int → Value} {B : Bk} {lv : Value} {n : Int} {vs : List Value} (hr : Row w' z 46 vs) (hj : Join w0 w' lp mp bp mn gb f B lv n j) : ¬ (B.own bp z ∨ z = gb) := by
  rintro (e | e)
  · exact hj.lk.book.mem.not_own hr (by decide) e
  · exact hr.ne hj.gr (by decide) e
/-- Wait of any goroutine -/
theorem wait_c (lp mp bp mn : Nat) (f : Int → Int → Value) (B : Bk) (s g gs gg : Int) (gb : Nat) (n : Int) (b1 : Bool) (w : World) (h : LkAt w lp mp bp mn f B) (hs : (Lit.int .u32 s).wf = true) (hg : (Lit.int .u32 g).wf = true) (hgs : (Lit.int .u32 gs).wf = true) (hgg : (Lit.int .u32 gg).wf = true)
    (hf : f s g = groupV gb) (hr : Row w gb 85 [.int .i64 n]) (hz : sameH gs gg 0 0 = false) (hz2 : sameH s g 0 0 = false) (hser : ∀ x ∈ B.N, 0 ≤ x.ser) (hb1 : (B.N.any fun x => sameH x.rc.hs x.rc.hg gs gg) = b1)
    (hgl : B.gens.length ≤ 99999) (hpl : B.put ≤ 99999) (hml : B.mn ≤ 99999) (hnl : B.N.length ≤ 99999) :
    Calls Try.prog 15 #[.pointer (some ⟨lp, 0, none⟩), .agg #[.int .u32 gs, .int .u32 gg], .agg #[.int .u32 s, .int .u32 g]] w fun e w' =>
      e = .returned (.tuple #[didV (if b1 = false ∧ 0 < n then 1 else 0) (.slice none 0 0), .int .i64 (if b1 then 163 else 0)]) ∧ WEnd w bp B ⟨s, g, 4⟩ n gs gg b1 w' := by
  cases b1 with
  | true =>
    obtain ⟨x, hx, e⟩ := List.any_eq_true.1 hb1
    refine (waitNo_c lp mp bp mn f B s g gs gg w h hser (may_yes hz hx e)).mono ?_
    rintro e w' ⟨rfl, hb⟩
    exact ⟨rfl, by unfold WEnd; rw [if_neg (by simp)]; exact hb⟩
  | false =>
    have hno : ∀ x ∈ B.N, sameH x.rc.hs x.rc.hg gs gg = false := fun x hx => by
      rw [List.any_eq_false] at hb1; have := hb1 x hx; simpa using this
    refine (waitIn_c lp mp bp mn f B s g gs gg gb n w h hs hg hgs hgg hf hr hz hz2 hser hno hgl hpl hml hnl).mono ?_
    intro e w' ho
    unfold WaitTo at ho
    by_cases hn : 0 < n
    · rw [if_pos hn] at ho
      obtain ⟨rfl, hp⟩ := ho
      exact ⟨by rw [if_pos ⟨rfl, hn⟩]; rfl, by unfold WEnd; rw [if_pos ⟨rfl, hn⟩]; exact hp⟩
    · rw [if_neg hn] at ho
      obtain ⟨rfl, hp⟩ := ho
      exact ⟨by rw [if_neg (fun e => hn e.2)]; rfl, by unfold WEnd; rw [if_neg (fun e => hn e.2)]; exact hp⟩
instance (n c : Int) : Decidable (tooFar n c) := inferInstanceAs (Decidable (n < -c ∨ 2147483647 - c < n))
/-- what has become of an Add -/
def AEnd (w : World) (lp mp bp mn gb : Nat) (f : Int → Int → Value) (B : Bk) (c n : Int) (v : Value) (w' : World) : Prop :=
  if tooFar n c then v = .slice none 0 0 ∧ Below w.heap.size w w'
  else if c + n ≠ 0 then v = .slice none 0 0 ∧ Row w' gb 85 [.int .i64 (c + n)] ∧ But (fun k => k = gb) w w'
  else LkAt w' lp mp bp mn f (B.from B.N.length) ∧ Row w' gb 85 [.int .i64 0] ∧ w'.ownsRow w.heap.size 53 8 v B.N.length (wakes B.N) ∧ But (fun k => B.own bp k ∨ k = gb) w w'
section
variable {w w1 w' w'' : World} {lp mp bp mn gb : Nat} {f : Int → Int → Value} {B : Bk} {c n : Int} {v : Value}
theorem AEnd.but (h : AEnd w lp mp bp mn gb f B c n v w') : But (fun k => B.own bp k ∨ k = gb) w w' := by
  unfold AEnd at h
  split at h
  · exact But.of_below h.2 _
  · split at h
    · exact h.2.2.weaken fun k hk => .inr hk
    · exact h.2.2.2
theorem AEnd.pre (hb : Below w.heap.size w w1) (hL : LkAt w lp mp bp mn f B) (hg : gb < w.heap.size) (h : AEnd w1 lp mp bp mn gb f B c n v w') : AEnd w lp mp bp mn gb f B c n v w' := by
  have hq : ∀ {S : Nat → Prop}, But S w1 w' → But S w w' := fun {S} k => (But.of_below hb S).trans k
  unfold AEnd at h ⊢
  split
  · rename_i hc
    rw [if_pos hc] at h
    exact ⟨h.1, hb.trans (h.2.mono hb.size)⟩
  · rename_i hc
    rw [if_neg hc] at h
    split
    · rename_i hd
      rw [if_pos hd] at h
      exact ⟨h.1, h.2.1, hq h.2.2⟩
    · rename_i hd
      rw [if_neg hd] at h
      exact ⟨h.1, h.2.1, h.2.2.1.mono hb.size, hq h.2.2.2⟩
theorem AEnd.post (hg : gb < w.heap.size) (h : AEnd w lp mp bp mn gb f B c n v w') (hb : Below w'.heap.size w' w'') : AEnd w lp mp bp mn gb f B c n v w'' := by
  have hsz := h.but.size
  have hq : ∀ {S : Nat → Prop}, But S w w' → But S w w'' := fun {S} k => k.trans (But.of_below hb S)
  unfold AEnd at h ⊢
  split
  · rename_i hc
    rw [if_pos hc] at h
    exact ⟨h.1, h.2.trans (hb.mono hsz)⟩
  · rename_i hc
    rw [if_neg hc] at h
    split
    · rename_i hd
      rw [if_pos hd] at h
      exact ⟨h.1, h.2.1.below hb h.2.1.lt, hq h.2.2⟩
    · rename_i hd
      rw [if_neg hd] at h
      exact ⟨h.1.below hb, h.2.1.below hb h.2.1.lt, own_move h.2.2.1 fun q hq => hb.block q (h.2.2.1.lt q hq).2, hq h.2.2.2⟩
theorem AEnd.store6 (hg : gb < w.heap.size) (h : AEnd w lp mp bp mn gb f B c n v w') {z : Nat} {vs : List Value} (hz : w.heap.size ≤ z) (hr : Row w' z 46 vs) (v0 v1 v2 v3 v4 v5 : Value) :
    AEnd w lp mp bp mn gb f B c n v ((((((w'.setCell ⟨z, 0, none⟩ v0).setCell ⟨z, 1, none⟩ v1).setCell ⟨z, 2, none⟩ v2).setCell ⟨z, 3, none⟩ v3).setCell ⟨z, 4, none⟩ v4).setCell ⟨z, 5, none⟩ v5) := by
  have hq : ∀ {S : Nat → Prop}, But S w w' → But S w ((((((w'.setCell ⟨z, 0, none⟩ v0).setCell ⟨z, 1, none⟩ v1).setCell ⟨z, 2, none⟩ v2).setCell ⟨z, 3, none⟩ v3).setCell ⟨z, 4, none⟩ v4).setCell ⟨z, 5, none⟩ v5) := fun {S} k => k.store6New hz _ _ _ _ _ _
  have hzb : But (fun k => k = z) w' ((((((w'.setCell ⟨z, 0, none⟩ v0).setCell ⟨z, 1, none⟩ v1).setCell ⟨z, 2, none⟩ v2).setCell ⟨z, 3, none⟩ v3).setCell ⟨z, 4, none⟩ v4).setCell ⟨z, 5, none⟩ v5) :=
    ((((((But.refl (fun k => k = z) w').set ⟨z, 0, none⟩ _ rfl).set ⟨z, 1, none⟩ _ rfl).set ⟨z, 2, none⟩ _ rfl).set ⟨z, 3, none⟩ _ rfl).set ⟨z, 4, none⟩ _ rfl).set ⟨z, 5, none⟩ _ rfl
  unfold AEnd at h ⊢
  split
  · rename_i hc
    rw [if_pos hc] at h
    exact ⟨h.1, below_store6 h.2 hz _ _ _ _ _ _⟩
  · rename_i hc
    rw [if_neg hc] at h
    split
    · rename_i hd
      rw [if_pos hd] at h
      exact ⟨h.1, hzb.row h.2.1 (by omega), hq h.2.2⟩
    · rename_i hd
      rw [if_neg hd] at h
      refine ⟨h.1.but hr (by decide) (by decide) hzb, hzb.row h.2.1 (by omega), own_move h.2.2.1 fun q hq => hzb.block q (h.2.2.1.lt q hq).2 fun e => ?_, hq h.2.2.2⟩
      obtain ⟨cs, hrow⟩ := own_row h.2.2.1 hq
      exact hrow.ne hr (by decide) e
end
/-- Add of any number -/
theorem add_c (lp mp bp mn : Nat) (f : Int → Int → Value) (B : Bk) (s g : Int) (gb : Nat) (c n : Int) (w : World) (h : LkAt w lp mp bp mn f B) (hs : (Lit.int .u32 s).wf = true) (hg : (Lit.int .u32 g).wf = true)
    (hf : f s g = groupV gb) (hr : Row w gb 85 [.int .i64 c]) (hz2 : sameH s g 0 0 = false) (hc : 0 ≤ c ∧ c ≤ 2147483647) (hkey : ∀ x ∈ B.N, x.rc.key = ⟨s, g, 4⟩) (hap : Apart B.N) (hN : B.N.length ≤ 1000) :
    Calls Try.prog 16 #[.pointer (some ⟨lp, 0, none⟩), .agg #[.int .u32 s, .int .u32 g], .int .i64 n] w fun e w' =>
      ∃ A m q, e = .returned (.tuple #[didV (if tooFar n c then 18 else 0) (.slice A m q), .int .i64 0]) ∧ AEnd w lp mp bp mn gb f B c n (.slice A m q) w' := by
  by_cases hfar : tooFar n c
  · refine (addFar_c lp mp bp mn f B s g gb c n w h hs hg hf hr hz2 hc hfar).mono ?_
    rintro e w' ⟨rfl, hb⟩
    exact ⟨none, 0, 0, by rw [if_pos hfar], by unfold AEnd; rw [if_pos hfar]; exact ⟨rfl, hb⟩⟩
  · by_cases hne : c + n ≠ 0
    · refine (addOn_c lp mp bp mn f B s g gb c n w h hs hg hf hr hz2 hc hfar hne).mono ?_
      rintro e w' ⟨rfl, hb⟩
      exact ⟨none, 0, 0, by rw [if_neg hfar], by unfold AEnd; rw [if_neg hfar, if_pos hne]; exact ⟨rfl, hb⟩⟩
    · refine (addZero_c lp mp bp mn f B s g gb c n w h hs hg hf hr hz2 hc (by omega) hkey hap hN).mono ?_
      rintro e w' ⟨v, rfl, hb⟩
      obtain ⟨A, q, rfl, _⟩ := own_form hb.2.2.1
      exact ⟨A, _, q, by rw [if_neg hfar], by unfold AEnd; rw [if_neg hfar, if_neg hne]; exact hb⟩
end Go.Proofs.Ytkdiibgjkipdnaa
