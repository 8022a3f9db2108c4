/-
  Unlock.
-/
import Derived.Test.YtkdiibgjkipdnaaLkL
namespace Go.Proofs.Ytkdiibgjkipdnaa
open Go.RowKit Go.Maps
set_option linter.unusedSimpArgs false
set_option linter.unusedVariables false

set_option maxHeartbeats 4000000 in
set_option maxRecDepth 100000 in
theorem unlockNo_c (lp mp bp mn : Nat) (f : Int → Int → Value) (B : Bk) (s g : Int) (gb : Nat) (a b : Int) (w : World) (h : LkAt w lp mp bp mn f B) (hs : (Lit.int .u32 s).wf = true) (hg : (Lit.int .u32 g).wf = true)
    (hf : f s g = mutexV gb) (hr : Row w gb 82 [.int .u32 a, .int .u32 b]) (hz2 : sameH s g 0 0 = false) (hab : sameH a b 0 0 = true) :
    Calls Try.prog 12 #[.pointer (some ⟨lp, 0, none⟩), .agg #[.int .u32 s, .int .u32 g]] w fun e w' => e = .returned (.tuple #[didV 15 (.slice none 0 0), .int .i64 0]) ∧ Below w.heap.size w w' := by
  have HK := Lib.hid (Adds.made w s g)
  have H0 := Lib.hid h
  have HL := Lib.hid (h.below HK.out.below)
  have HG := Lib.hid (hr.below HK.out.below hr.lt)
  have HGB := Lib.hid hr.lt
  have e0 := fun w => eql_locks_nil ⟨lp, 0, none⟩ w
  have e1 := fun w => run_eql_handle s g 0 0 w
  rw [hz2] at e1
  have e2 := fun w => run_eql_handle a b 0 0 w
  rw [hab] at e2
  have r0 := HK.out.of.cell 0
  have r1 := HK.out.of.cell 1
  have c1 := HL.out.obj.cell 1
  have n0 := HG.out.cell 0
  have n1 := HG.out.cell 1
  dsimp only [List.getElem?_cons_zero, List.getElem?_cons_succ] at r0 r1 c1 n0 n1
  have hl := HL.out.look hs hg
  rw [hf] at hl
  unfold mutexV at hl
  have HHL := Lib.hid hl
  clear h hr hz2 hf hs hg hl hab
  go_enter Try.func12, Try.ntmps12
  go_upto_region 5 with fail
  change Code.wp _ _ _ _ (wAdd w s g)
  generalize wAdd w s g = w1 at *
  have hl := HHL.out
  have hl0 := hl 0
  rw [World.drewN_zero] at hl0
  go_quiet (fail)
  have HK3 := Lib.hid (HK.out.next (below_drewN (Below.refl _ _) nq))
  have HL3 := Lib.hid (HL.out.below (below_drewN (Below.refl _ _) nq))
  have HG3 := Lib.hid (HG.out.drewN nq)
  clear hl hl0 HHL HK HL HG r0 r1 c1 n0 n1
  generalize w1.drewN nq = w3 at *
  have n0 := HG3.out.cell 0
  have n1 := HG3.out.cell 1
  dsimp only [List.getElem?_cons_zero, List.getElem?_cons_succ] at n0 n1
  obtain ⟨⟨z0, z1, z2, z3, z4, z5⟩, f0, f1, f2, f3, f4, f5⟩ := HK3.out.did.at6
  go_wp2_with fail
  have hfin := HK3.out.did.store6 (.int .i64 15) (.int .i64 0) (.int .u32 0) (.int .u32 0) (.bool false) (.slice none 0 0)
  (try simp only [Exit.inBlock, Exit.then]); refine bodyPost_ret (results_cell2_row rfl _ _ (w.heap.size + 1) 46 #[.int .i64 15, .int .i64 0, .int .u32 0, .int .u32 0, .bool false, .slice none 0 0] (0, 0) _ rfl hfin Try.underlying46 rfl (by kernel_rfl)) rfl ?_
  have hz : w.heap.size ≤ w.heap.size + 1 := by omega
  exact ⟨rfl, below_store6 HK3.out.below hz _ _ _ _ _ _⟩
theorem Row.store2far {w : World} {b q e : Nat} {vs : List Value} (h : Row w b e vs) (hn : b ≠ q) (x y : Value) : Row ((w.setCell ⟨q, 0, none⟩ x).setCell ⟨q, 1, none⟩ y) b e vs := (h.far (p := ⟨q, 0, none⟩) hn _).far (p := ⟨q, 1, none⟩) hn _
theorem But.store2 {S : Nat → Prop} {w w' : World} (h : But S w w') {q : Nat} (hq : S q) (x y : Value) : But S w ((w'.setCell ⟨q, 0, none⟩ x).setCell ⟨q, 1, none⟩ y) := (h.set ⟨q, 0, none⟩ _ hq).set ⟨q, 1, none⟩ _ hq
theorem But.only2 (w : World) (q : Nat) (x y : Value) : But (fun k => k = q) w ((w.setCell ⟨q, 0, none⟩ x).setCell ⟨q, 1, none⟩ y) := (But.refl (fun k => k = q) w).store2 rfl x y
theorem But.only6 (w : World) (q : Nat) (v0 v1 v2 v3 v4 v5 : Value) : But (fun k => k = q) w ((((((w.setCell ⟨q, 0, none⟩ v0).setCell ⟨q, 1, none⟩ v1).setCell ⟨q, 2, none⟩ v2).setCell ⟨q, 3, none⟩ v3).setCell ⟨q, 4, none⟩ v4).setCell ⟨q, 5, none⟩ v5) :=
  ((((((But.refl (fun k => k = q) w).set ⟨q, 0, none⟩ _ rfl).set ⟨q, 1, none⟩ _ rfl).set ⟨q, 2, none⟩ _ rfl).set ⟨q, 3, none⟩ _ rfl).set ⟨q, 4, none⟩ _ rfl).set ⟨q, 5, none⟩ _ rfl
/-- what has become of an Unlock: locks, holder, who was woken -/
structure UEnd (w : World) (lp mp bp mn gb : Nat) (f : Int → Int → Value) (B B' : Bk) (a b : Int) (w' : World) : Prop where
  lk : LkAt w' lp mp bp mn f B'
  gr : Row w' gb 82 [.int .u32 a, .int .u32 b]
  but : But (fun k => B.own bp k ∨ k = gb) w w'
  own : ∀ k, B'.own bp k → B.own bp k ∨ w.heap.size ≤ k
def UnlockTo (w : World) (lp mp bp mn gb : Nat) (f : Int → Int → Value) (B : Bk) (k : Key) (e : Ending) (w' : World) : Prop := match (inRow k B.N).head? with
  | some x => ∃ q, e = .returned (.tuple #[didV 0 (.slice (some ⟨q, 0, none⟩) 1 1), .int .i64 0]) ∧ w.heap.size ≤ q ∧ Row w' q 53 (wakeL x.rc.hs x.rc.hg x.rc.arm) ∧ UEnd w lp mp bp mn gb f B (B.left x.rc.hs x.rc.hg) x.rc.hs x.rc.hg w'
  | none => e = .returned (.tuple #[didV 0 (.slice none 0 0), .int .i64 0]) ∧ UEnd w lp mp bp mn gb f B B 0 0 w'
set_option maxHeartbeats 4000000 in
set_option maxRecDepth 100000 in
theorem unlockOn_c (lp mp bp mn : Nat) (f : Int → Int → Value) (B : Bk) (s g : Int) (gb : Nat) (a b : Int) (w : World) (h : LkAt w lp mp bp mn f B) (hs : (Lit.int .u32 s).wf = true) (hg : (Lit.int .u32 g).wf = true)
    (hf : f s g = mutexV gb) (hr : Row w gb 82 [.int .u32 a, .int .u32 b]) (hz2 : sameH s g 0 0 = false) (hab : sameH a b 0 0 = false) (hN : B.N.length ≤ 100000) (x : Nd) (hx : (inRow ⟨s, g, 3⟩ B.N).head? = some x) :
    Calls Try.prog 12 #[.pointer (some ⟨lp, 0, none⟩), .agg #[.int .u32 s, .int .u32 g]] w (UnlockTo w lp mp bp mn gb f B ⟨s, g, 3⟩) := by
  have HK := Lib.hid (Adds.made w s g)
  have H0 := Lib.hid h
  have HL := Lib.hid (h.below HK.out.below)
  have HG := Lib.hid (hr.below HK.out.below hr.lt)
  have HGB := Lib.hid hr.lt
  have e0 := fun w => eql_locks_nil ⟨lp, 0, none⟩ w
  have e1 := fun w => run_eql_handle s g 0 0 w
  rw [hz2] at e1
  have e2 := fun w => run_eql_handle a b 0 0 w
  rw [hab] at e2
  have r0 := HK.out.of.cell 0
  have r1 := HK.out.of.cell 1
  have c1 := HL.out.obj.cell 1
  have n0 := HG.out.cell 0
  have n1 := HG.out.cell 1
  dsimp only [List.getElem?_cons_zero, List.getElem?_cons_succ] at r0 r1 c1 n0 n1
  have hl := HL.out.look hs hg
  rw [hf] at hl
  unfold mutexV at hl
  have HHL := Lib.hid hl
  have CK := Lib.hid (fun w' (hw' : LkAt w' lp mp bp mn f B) => wake_c lp mp bp mn f B s g 3 w' hw' ⟨hs, hg, rfl⟩ hN)
  have HXD := Lib.hid hx
  obtain ⟨xa, hxa⟩ : ∃ xa, x.rc.hs = xa := ⟨_, rfl⟩
  obtain ⟨xg, hxg⟩ : ∃ xg, x.rc.hg = xg := ⟨_, rfl⟩
  obtain ⟨xm, hxm⟩ : ∃ xm, x.rc.arm = xm := ⟨_, rfl⟩
  have HXX := Lib.hid (And.intro hxa (And.intro hxg hxm))
  have HNG := Lib.hid (h.book.mem.not_own hr (by decide))
  clear h hr hz2 hf hs hg hl hab hN
  go_enter Try.func12, Try.ntmps12
  go_upto_region 5 with fail
  change Code.wp _ _ _ _ (wAdd w s g)
  generalize wAdd w s g = w1 at *
  have hl := HHL.out
  have hl0 := hl 0
  rw [World.drewN_zero] at hl0
  go_quiet (fail)
  have HK3 := Lib.hid (HK.out.next (below_drewN (Below.refl _ _) nq))
  have HL3 := Lib.hid (HL.out.below (below_drewN (Below.refl _ _) nq))
  have HG3 := Lib.hid (HG.out.drewN nq)
  clear hl hl0 HHL HK HL HG r0 r1 c1 n0 n1
  generalize w1.drewN nq = w3 at *
  have n0 := HG3.out.cell 0
  have n1 := HG3.out.cell 1
  have r0 := HK3.out.of.cell 0
  have r1 := HK3.out.of.cell 1
  dsimp only [List.getElem?_cons_zero, List.getElem?_cons_succ] at n0 n1 r0 r1
  have CW := Lib.hid (CK.out w3 HL3.out)
  unfold WakeTo at CW
  rw [hx] at CW
  dsimp only at CW
  rw [hxa, hxg, hxm] at CW
  clear hxa hxg hxm
  unfold wakeV wakeL at CW
  clear CK hx
  go_wp2_with fail
  refine CW.out.mono ?_
  rintro e w4 ⟨rfl, hto⟩
  have hG4 := hto.but.row HG3.out (HL3.out.book.mem.not_own HG3.out (by decide))
  have hD4 := hto.but.row HK3.out.did (HL3.out.book.mem.not_own HK3.out.did (by decide))
  have hL4 := HL3.out.to hto
  have HTO := Lib.hid (BookTo.after HK3.out.below H0.out.book hto)
  have hA5 : Below w4.heap.size w4 (w4.alloc (.cells #[.int .u32 xa, .int .u32 xg, .int .i64 xm, .int .i64 0, .int .u32 0, .int .u32 0, .bool false, .int .i64 0] 53)) := (Below.refl _ _).alloc (Nat.le_refl _) _
  have hX5 := Row.new w4 53 [.int .u32 xa, .int .u32 xg, .int .i64 xm, .int .i64 0, .int .u32 0, .int .u32 0, .bool false, .int .i64 0]
  change Row (w4.alloc (.cells #[.int .u32 xa, .int .u32 xg, .int .i64 xm, .int .i64 0, .int .u32 0, .int .u32 0, .bool false, .int .i64 0] 53)) _ _ _ at hX5
  have HG5 := Lib.hid (hG4.alloc (.cells #[.int .u32 xa, .int .u32 xg, .int .i64 xm, .int .i64 0, .int .u32 0, .int .u32 0, .bool false, .int .i64 0] 53))
  have HD5 := Lib.hid (hD4.alloc (.cells #[.int .u32 xa, .int .u32 xg, .int .i64 xm, .int .i64 0, .int .u32 0, .int .u32 0, .bool false, .int .i64 0] 53))
  have HL5 := Lib.hid (hL4.below hA5)
  have HX5 := Lib.hid hX5
  have HB5 := Lib.hid (((But.of_below HK3.out.below (B.own bp)).trans hto.but).alloc (.cells #[.int .u32 xa, .int .u32 xg, .int .i64 xm, .int .i64 0, .int .u32 0, .int .u32 0, .bool false, .int .i64 0] 53))
  have hxz : w.heap.size ≤ w4.heap.size := Nat.le_trans HK3.out.below.size hto.but.size
  have hgz : gb < w4.heap.size := hG4.lt
  have hdz : w.heap.size + 1 < w4.heap.size := hD4.lt
  clear hto hG4 hD4 hL4 hA5 hX5 CW HK3 HL3 HG3 n0 n1 r0 r1
  go_upto_region 11 with fail
  generalize w4.alloc (.cells #[.int .u32 xa, .int .u32 xg, .int .i64 xm, .int .i64 0, .int .u32 0, .int .u32 0, .bool false, .int .i64 0] 53) = w5 at *
  generalize w4.heap.size = xb at *
  obtain ⟨⟨x0, x1, x2, x3, x4, x5, x6, x7⟩, _⟩ := HX5.out.at8
  have g0 := HG5.out.frozen 0
  have g1 := HG5.out.frozen 1
  have n0 := HG5.out.cell 0
  have n1 := HG5.out.cell 1
  dsimp only [List.getElem?_cons_zero, List.getElem?_cons_succ] at n0 n1
  go_upto_region 12 with fail
  have hG6 : Row ((w5.setCell ⟨gb, 0, none⟩ (.int .u32 xa)).setCell ⟨gb, 1, none⟩ (.int .u32 xg)) gb 82 [.int .u32 xa, .int .u32 xg] := (HG5.out.set 0 _).set 1 _
  have hX6 := HX5.out.store2far (q := gb) (by omega) (.int .u32 xa) (.int .u32 xg)
  have hgb := HGB.out
  have hD6 := HD5.out.store2far (q := gb) (by omega) (.int .u32 xa) (.int .u32 xg)
  have hL6 := HL5.out.but HG5.out (by decide) (by decide) (But.only2 w5 gb (.int .u32 xa) (.int .u32 xg))
  have hB6 : But (fun k => B.own bp k ∨ k = gb) w ((w5.setCell ⟨gb, 0, none⟩ (.int .u32 xa)).setCell ⟨gb, 1, none⟩ (.int .u32 xg)) := (HB5.out.weaken (fun k hk => .inl hk)).store2 (.inr rfl) _ _
  have HG6 := Lib.hid hG6
  have HX6 := Lib.hid hX6
  have HD6 := Lib.hid hD6
  have HL6 := Lib.hid hL6
  have HB6 := Lib.hid hB6
  clear hG6 hX6 hD6 hL6 hB6 HG5 HX5 HD5 HL5 HB5 x0 x1 x2 x3 x4 x5 x6 x7 g0 g1 n0 n1
  generalize (w5.setCell ⟨gb, 0, none⟩ (.int .u32 xa)).setCell ⟨gb, 1, none⟩ (.int .u32 xg) = w6 at *
  obtain ⟨⟨x0, x1, x2, x3, x4, x5, x6, x7⟩, _⟩ := HX6.out.at8
  go_upto_region 14 with fail
  obtain ⟨⟨z0, z1, z2, z3, z4, z5⟩, f0, f1, f2, f3, f4, f5⟩ := (HD6.out.alloc (.cells #[.int .u32 xa, .int .u32 xg, .int .i64 xm, .int .i64 0, .int .u32 0, .int .u32 0, .bool false, .int .i64 0] 53)).at6
  go_wp2_with fail
  have hD7 := HD6.out.alloc (.cells #[.int .u32 xa, .int .u32 xg, .int .i64 xm, .int .i64 0, .int .u32 0, .int .u32 0, .bool false, .int .i64 0] 53)
  have hQ7 := Row.new w6 53 [.int .u32 xa, .int .u32 xg, .int .i64 xm, .int .i64 0, .int .u32 0, .int .u32 0, .bool false, .int .i64 0]
  have hL7 := HL6.out.below ((Below.refl _ w6).alloc (Nat.le_refl _) (.cells #[.int .u32 xa, .int .u32 xg, .int .i64 xm, .int .i64 0, .int .u32 0, .int .u32 0, .bool false, .int .i64 0] 53))
  have hG7 := HG6.out.alloc (.cells #[.int .u32 xa, .int .u32 xg, .int .i64 xm, .int .i64 0, .int .u32 0, .int .u32 0, .bool false, .int .i64 0] 53)
  have hB7 := HB6.out.alloc (.cells #[.int .u32 xa, .int .u32 xg, .int .i64 xm, .int .i64 0, .int .u32 0, .int .u32 0, .bool false, .int .i64 0] 53)
  have hsz6 := HB6.out.size
  have hd6 := HD6.out.lt
  have hfin := hD7.store6 (.int .i64 0) (.int .i64 0) (.int .u32 0) (.int .u32 0) (.bool false) (.slice (some ⟨w6.heap.size, 0, none⟩) 1 1)
  (try simp only [Exit.inBlock, Exit.then]); refine bodyPost_ret (results_cell2_row rfl _ _ (w.heap.size + 1) 46 #[.int .i64 0, .int .i64 0, .int .u32 0, .int .u32 0, .bool false, .slice (some ⟨w6.heap.size, 0, none⟩) 1 1] (0, 0) _ rfl hfin Try.underlying46 rfl (by kernel_rfl)) rfl ?_
  unfold UnlockTo
  rw [HXD.out]
  dsimp only
  rw [HXX.out.1, HXX.out.2.1, HXX.out.2.2]
  have h6 := But.only6 (w6.alloc (.cells #[.int .u32 xa, .int .u32 xg, .int .i64 xm, .int .i64 0, .int .u32 0, .int .u32 0, .bool false, .int .i64 0] 53)) (w.heap.size + 1) (.int .i64 0) (.int .i64 0) (.int .u32 0) (.int .u32 0) (.bool false) (.slice (some ⟨w6.heap.size, 0, none⟩) 1 1)
  exact ⟨w6.heap.size, rfl, hsz6, h6.row hQ7 (by omega), hL7.but hD7 (by decide) (by decide) h6, h6.row hG7 (by omega), hB7.store6New (by omega) _ _ _ _ _ _, HTO.out.own⟩
set_option maxHeartbeats 4000000 in
set_option maxRecDepth 100000 in
theorem unlockOff_c (lp mp bp mn : Nat) (f : Int → Int → Value) (B : Bk) (s g : Int) (gb : Nat) (a b : Int) (w : World) (h : LkAt w lp mp bp mn f B) (hs : (Lit.int .u32 s).wf = true) (hg : (Lit.int .u32 g).wf = true)
    (hf : f s g = mutexV gb) (hr : Row w gb 82 [.int .u32 a, .int .u32 b]) (hz2 : sameH s g 0 0 = false) (hab : sameH a b 0 0 = false) (hN : B.N.length ≤ 100000) (hx : (inRow ⟨s, g, 3⟩ B.N).head? = none) :
    Calls Try.prog 12 #[.pointer (some ⟨lp, 0, none⟩), .agg #[.int .u32 s, .int .u32 g]] w (UnlockTo w lp mp bp mn gb f B ⟨s, g, 3⟩) := by
  have HK := Lib.hid (Adds.made w s g)
  have H0 := Lib.hid h
  have HL := Lib.hid (h.below HK.out.below)
  have HG := Lib.hid (hr.below HK.out.below hr.lt)
  have HGB := Lib.hid hr.lt
  have e0 := fun w => eql_locks_nil ⟨lp, 0, none⟩ w
  have e1 := fun w => run_eql_handle s g 0 0 w
  rw [hz2] at e1
  have e2 := fun w => run_eql_handle a b 0 0 w
  rw [hab] at e2
  have r0 := HK.out.of.cell 0
  have r1 := HK.out.of.cell 1
  have c1 := HL.out.obj.cell 1
  have n0 := HG.out.cell 0
  have n1 := HG.out.cell 1
  dsimp only [List.getElem?_cons_zero, List.getElem?_cons_succ] at r0 r1 c1 n0 n1
  have hl := HL.out.look hs hg
  rw [hf] at hl
  unfold mutexV at hl
  have HHL := Lib.hid hl
  have CK := Lib.hid (fun w' (hw' : LkAt w' lp mp bp mn f B) => wake_c lp mp bp mn f B s g 3 w' hw' ⟨hs, hg, rfl⟩ hN)
  have HXD := Lib.hid hx
  have HNG := Lib.hid (h.book.mem.not_own hr (by decide))
  clear h hr hz2 hf hs hg hl hab hN
  go_enter Try.func12, Try.ntmps12
  go_upto_region 5 with fail
  change Code.wp _ _ _ _ (wAdd w s g)
  generalize wAdd w s g = w1 at *
  have hl := HHL.out
  have hl0 := hl 0
  rw [World.drewN_zero] at hl0
  go_quiet (fail)
  have HK3 := Lib.hid (HK.out.next (below_drewN (Below.refl _ _) nq))
  have HL3 := Lib.hid (HL.out.below (below_drewN (Below.refl _ _) nq))
  have HG3 := Lib.hid (HG.out.drewN nq)
  clear hl hl0 HHL HK HL HG r0 r1 c1 n0 n1
  generalize w1.drewN nq = w3 at *
  have n0 := HG3.out.cell 0
  have n1 := HG3.out.cell 1
  have r0 := HK3.out.of.cell 0
  have r1 := HK3.out.of.cell 1
  dsimp only [List.getElem?_cons_zero, List.getElem?_cons_succ] at n0 n1 r0 r1
  have CW := Lib.hid (CK.out w3 HL3.out)
  unfold WakeTo at CW
  rw [hx] at CW
  dsimp only at CW
  unfold wakeV wakeL at CW
  clear CK hx
  go_wp2_with fail
  refine CW.out.mono ?_
  rintro e w4 ⟨rfl, hto⟩
  have hG4 := hto.but.row HG3.out (HL3.out.book.mem.not_own HG3.out (by decide))
  have hD4 := hto.but.row HK3.out.did (HL3.out.book.mem.not_own HK3.out.did (by decide))
  have hL4 := HL3.out.to hto
  have HTO := Lib.hid (BookTo.after HK3.out.below H0.out.book hto)
  have hA5 : Below w4.heap.size w4 (w4.alloc (.cells #[.int .u32 0, .int .u32 0, .int .i64 0, .int .i64 0, .int .u32 0, .int .u32 0, .bool false, .int .i64 0] 53)) := (Below.refl _ _).alloc (Nat.le_refl _) _
  have hX5 := Row.new w4 53 [.int .u32 0, .int .u32 0, .int .i64 0, .int .i64 0, .int .u32 0, .int .u32 0, .bool false, .int .i64 0]
  change Row (w4.alloc (.cells #[.int .u32 0, .int .u32 0, .int .i64 0, .int .i64 0, .int .u32 0, .int .u32 0, .bool false, .int .i64 0] 53)) _ _ _ at hX5
  have HG5 := Lib.hid (hG4.alloc (.cells #[.int .u32 0, .int .u32 0, .int .i64 0, .int .i64 0, .int .u32 0, .int .u32 0, .bool false, .int .i64 0] 53))
  have HD5 := Lib.hid (hD4.alloc (.cells #[.int .u32 0, .int .u32 0, .int .i64 0, .int .i64 0, .int .u32 0, .int .u32 0, .bool false, .int .i64 0] 53))
  have HL5 := Lib.hid (hL4.below hA5)
  have HX5 := Lib.hid hX5
  have HB5 := Lib.hid (((But.of_below HK3.out.below (B.own bp)).trans hto.but).alloc (.cells #[.int .u32 0, .int .u32 0, .int .i64 0, .int .i64 0, .int .u32 0, .int .u32 0, .bool false, .int .i64 0] 53))
  have hxz : w.heap.size ≤ w4.heap.size := Nat.le_trans HK3.out.below.size hto.but.size
  have hgz : gb < w4.heap.size := hG4.lt
  have hdz : w.heap.size + 1 < w4.heap.size := hD4.lt
  clear hto hG4 hD4 hL4 hA5 hX5 CW HK3 HL3 HG3 n0 n1 r0 r1
  go_upto_region 11 with fail
  generalize w4.alloc (.cells #[.int .u32 0, .int .u32 0, .int .i64 0, .int .i64 0, .int .u32 0, .int .u32 0, .bool false, .int .i64 0] 53) = w5 at *
  generalize w4.heap.size = xb at *
  obtain ⟨⟨x0, x1, x2, x3, x4, x5, x6, x7⟩, _⟩ := HX5.out.at8
  have g0 := HG5.out.frozen 0
  have g1 := HG5.out.frozen 1
  have n0 := HG5.out.cell 0
  have n1 := HG5.out.cell 1
  dsimp only [List.getElem?_cons_zero, List.getElem?_cons_succ] at n0 n1
  go_upto_region 12 with fail
  have hG6 : Row ((w5.setCell ⟨gb, 0, none⟩ (.int .u32 0)).setCell ⟨gb, 1, none⟩ (.int .u32 0)) gb 82 [.int .u32 0, .int .u32 0] := (HG5.out.set 0 _).set 1 _
  have hX6 := HX5.out.store2far (q := gb) (by omega) (.int .u32 0) (.int .u32 0)
  have hgb := HGB.out
  have hD6 := HD5.out.store2far (q := gb) (by omega) (.int .u32 0) (.int .u32 0)
  have hL6 := HL5.out.but HG5.out (by decide) (by decide) (But.only2 w5 gb (.int .u32 0) (.int .u32 0))
  have hB6 : But (fun k => B.own bp k ∨ k = gb) w ((w5.setCell ⟨gb, 0, none⟩ (.int .u32 0)).setCell ⟨gb, 1, none⟩ (.int .u32 0)) := (HB5.out.weaken (fun k hk => .inl hk)).store2 (.inr rfl) _ _
  have HG6 := Lib.hid hG6
  have HX6 := Lib.hid hX6
  have HD6 := Lib.hid hD6
  have HL6 := Lib.hid hL6
  have HB6 := Lib.hid hB6
  clear hG6 hX6 hD6 hL6 hB6 HG5 HX5 HD5 HL5 HB5 x0 x1 x2 x3 x4 x5 x6 x7 g0 g1 n0 n1
  generalize (w5.setCell ⟨gb, 0, none⟩ (.int .u32 0)).setCell ⟨gb, 1, none⟩ (.int .u32 0) = w6 at *
  obtain ⟨⟨z0, z1, z2, z3, z4, z5⟩, f0, f1, f2, f3, f4, f5⟩ := HD6.out.at6
  go_wp2_with fail
  have hfin := HD6.out.store6 (.int .i64 0) (.int .i64 0) (.int .u32 0) (.int .u32 0) (.bool false) (.slice none 0 0)
  (try simp only [Exit.inBlock, Exit.then]); refine bodyPost_ret (results_cell2_row rfl _ _ (w.heap.size + 1) 46 #[.int .i64 0, .int .i64 0, .int .u32 0, .int .u32 0, .bool false, .slice none 0 0] (0, 0) _ rfl hfin Try.underlying46 rfl (by kernel_rfl)) rfl ?_
  unfold UnlockTo
  rw [HXD.out]
  have h6 := But.only6 w6 (w.heap.size + 1) (.int .i64 0) (.int .i64 0) (.int .u32 0) (.int .u32 0) (.bool false) (.slice none 0 0)
  exact ⟨rfl, HL6.out.but HD6.out (by decide) (by decide) h6, h6.row HG6.out (by omega), HB6.out.store6New (by omega) _ _ _ _ _ _, fun k hk => .inl hk⟩
end Go.Proofs.Ytkdiibgjkipdnaa
