/-
  Lock.
-/
import Derived.Test.YtkdiibgjkipdnaaLkV
namespace Go.Proofs.Ytkdiibgjkipdnaa
open Go.RowKit Go.Maps
set_option linter.unusedSimpArgs false
set_option linter.unusedVariables false

set_option maxHeartbeats 4000000 in
set_option maxRecDepth 100000 in
theorem lockNo_c (lp mp bp mn : Nat) (f : Int → Int → Value) (B : Bk) (s g gs gg : Int) (w : World) (h : LkAt w lp mp bp mn f B) (hser : ∀ x ∈ B.N, 0 ≤ x.ser) (hm : mayV B.N gs gg = 163) :
    Calls Try.prog 11 #[.pointer (some ⟨lp, 0, none⟩), .agg #[.int .u32 gs, .int .u32 gg], .agg #[.int .u32 s, .int .u32 g]] w fun e w' => e = .returned (.tuple #[didV 0 (.slice none 0 0), .int .i64 163]) ∧ Below w.heap.size w w' := by
  have HK := Lib.hid (Asks.made w gs gg s g)
  have HL := Lib.hid (h.below HK.out.below)
  have CM := Lib.hid (may_c lp mp bp mn f B gs gg _ HL.out hser)
  rw [hm] at CM
  have r0 := HK.out.who.cell 0
  have r1 := HK.out.who.cell 1
  dsimp only [List.getElem?_cons_zero, List.getElem?_cons_succ] at r0 r1
  clear h hser hm
  go_enter Try.func11, Try.ntmps11
  go_wp2_with fail
  change Calls _ _ _ (wWait w gs gg s g) _
  refine CM.out.mono ?_
  rintro e w2 ⟨rfl, hb2⟩
  have HK2 := Lib.hid (HK.out.next hb2)
  clear hb2 CM HK HL r0 r1
  obtain ⟨⟨z0, z1, z2, z3, z4, z5⟩, f0, f1, f2, f3, f4, f5⟩ := HK2.out.did.at6
  go_wp2_with fail
  have hfin := HK2.out.did.store6 (.int .i64 0) (.int .i64 0) (.int .u32 0) (.int .u32 0) (.bool false) (.slice none 0 0)
  (try simp only [Exit.inBlock, Exit.then]); refine bodyPost_ret (results_cell2_row rfl _ _ (w.heap.size + 1 + 1) 46 #[.int .i64 0, .int .i64 0, .int .u32 0, .int .u32 0, .bool false, .slice none 0 0] (0, 0) _ rfl hfin Try.underlying46 rfl (by kernel_rfl)) rfl ?_
  refine ⟨rfl, ?_⟩
  have hz : w.heap.size ≤ w.heap.size + 1 + 1 := by omega
  exact (((((HK2.out.below.setCell (p := ⟨_, 0, none⟩) hz _).setCell (p := ⟨_, 1, none⟩) hz _).setCell (p := ⟨_, 2, none⟩) hz _).setCell (p := ⟨_, 3, none⟩) hz _).setCell (p := ⟨_, 4, none⟩) hz _).setCell (p := ⟨_, 5, none⟩) hz _

/-- what has become of a Lock of who waits nowhere -/
def LEnd (w : World) (bp gb : Nat) (B : Bk) (k : Key) (a b hs hg : Int) (w' : World) : Prop :=
  if sameH a b 0 0 = true then Row w' gb 82 [.int .u32 hs, .int .u32 hg] ∧ But (fun q => q = gb) w w' else ∃ B' x, Parks w bp B k hs hg w' B' x
def LockTo (w : World) (bp gb : Nat) (B : Bk) (k : Key) (a b hs hg : Int) (e : Ending) (w' : World) : Prop :=
  e = .returned (.tuple #[didV (if sameH a b 0 0 = true then 0 else 1) (.slice none 0 0), .int .i64 0]) ∧ LEnd w bp gb B k a b hs hg w'
theorem But.store6z {S : Nat → Prop} {w w' : World} (h : But S w w') {z : Nat} (hz : w.heap.size ≤ z) (v0 v1 v2 v3 v4 v5 : Value) : But S w ((((((w'.setCell ⟨z, 0, none⟩ v0).setCell ⟨z, 1, none⟩ v1).setCell ⟨z, 2, none⟩ v2).setCell ⟨z, 3, none⟩ v3).setCell ⟨z, 4, none⟩ v4).setCell ⟨z, 5, none⟩ v5) := h.store6New hz _ _ _ _ _ _
set_option maxHeartbeats 4000000 in
set_option maxRecDepth 100000 in
theorem lockIn_c (lp mp bp mn : Nat) (f : Int → Int → Value) (B : Bk) (s g gs gg : Int) (gb : Nat) (a b : Int) (w : World) (h : LkAt w lp mp bp mn f B) (hs : (Lit.int .u32 s).wf = true) (hg : (Lit.int .u32 g).wf = true) (hgs : (Lit.int .u32 gs).wf = true) (hgg : (Lit.int .u32 gg).wf = true)
    (hf : f s g = mutexV gb) (hr : Row w gb 82 [.int .u32 a, .int .u32 b]) (hz : sameH gs gg 0 0 = false) (hz2 : sameH s g 0 0 = false) (hser : ∀ x ∈ B.N, 0 ≤ x.ser) (hno : ∀ x ∈ B.N, sameH x.rc.hs x.rc.hg gs gg = false)
    (hgl : B.gens.length ≤ 99999) (hpl : B.put ≤ 99999) (hml : B.mn ≤ 99999) (hnl : B.N.length ≤ 99999) :
    Calls Try.prog 11 #[.pointer (some ⟨lp, 0, none⟩), .agg #[.int .u32 gs, .int .u32 gg], .agg #[.int .u32 s, .int .u32 g]] w (LockTo w bp gb B ⟨s, g, 3⟩ a b gs gg) := by
  have HK := Lib.hid (Asks.made w gs gg s g)
  have H0 := Lib.hid h
  have HR0 := Lib.hid hr
  have HL := Lib.hid (h.below HK.out.below)
  have HG := Lib.hid (hr.below HK.out.below hr.lt)
  have HM := Lib.hid (may_no hz hno)
  have HSER := Lib.hid hser
  have e1 := fun w => run_eql_handle s g 0 0 w
  rw [hz2] at e1
  have CP := Lib.hid (fun w' (hw' : LkAt w' lp mp bp mn f B) => park_c lp mp bp mn f B s g 3 gs gg w' hw' ⟨hs, hg, rfl⟩ hgs hgg hz (by omega) (fun x hx => by unfold hits; rw [hno x hx]; rfl) hgl hpl hml hnl)
  have HF := Lib.hid hf
  have HWF := Lib.hid (And.intro hs hg)
  have r0 := HK.out.who.cell 0
  have r1 := HK.out.who.cell 1
  dsimp only [List.getElem?_cons_zero, List.getElem?_cons_succ] at r0 r1
  clear h hr hz hz2 hser hno hgl hpl hml hnl hf hs hg hgs hgg
  go_enter Try.func11, Try.ntmps11
  go_wp2_with fail
  change Calls _ _ _ (wWait w gs gg s g) _
  have CM := Lib.hid (may_c lp mp bp mn f B gs gg _ HL.out HSER.out)
  rw [HM.out] at CM
  refine CM.out.mono ?_
  rintro e w2 ⟨rfl, hb2⟩
  have HK2 := Lib.hid (HK.out.next hb2)
  have HL2 := Lib.hid (HL.out.below hb2)
  have HG2 := Lib.hid (HG.out.below hb2 HG.out.lt)
  clear hb2 CM HK HL HG r0 r1
  have r0 := HK2.out.of.cell 0
  have r1 := HK2.out.of.cell 1
  have c1 := HL2.out.obj.cell 1
  dsimp only [List.getElem?_cons_zero, List.getElem?_cons_succ] at r0 r1 c1
  go_upto_region 6 with fail
  have hl := HL2.out.look HWF.out.1 HWF.out.2
  rw [HF.out] at hl
  unfold mutexV at hl
  have hl0 := hl 0
  rw [World.drewN_zero] at hl0
  go_quiet (fail)
  have HK3 := Lib.hid (HK2.out.next (below_drewN (Below.refl _ _) nq))
  have HL3 := Lib.hid (HL2.out.below (below_drewN (Below.refl _ _) nq))
  have HG3 := Lib.hid (HG2.out.drewN nq)
  clear hl hl0 HK2 HL2 HG2 r0 r1 c1
  generalize w2.drewN nq = w3 at *
  have n0 := HG3.out.cell 0
  have n1 := HG3.out.cell 1
  have q0 := HK3.out.who.cell 0
  have q1 := HK3.out.who.cell 1
  have r0 := HK3.out.of.cell 0
  have r1 := HK3.out.of.cell 1
  obtain ⟨⟨z0, z1, z2, z3, z4, z5⟩, f0, f1, f2, f3, f4, f5⟩ := HK3.out.did.at6
  dsimp only [List.getElem?_cons_zero, List.getElem?_cons_succ] at n0 n1 q0 q1 r0 r1
  have e2 := fun w => run_neq_handle a b 0 0 w
  unfold LockTo
  obtain ⟨bz, hbz⟩ : ∃ bz, sameH a b 0 0 = bz := ⟨_, rfl⟩
  have HBZ := Lib.hid hbz
  rw [hbz] at e2
  rw [hbz]
  clear hbz
  cases bz with
  | false =>
    go_wp2_with fail
    refine (CP.out w3 HL3.out).mono ?_
    rintro e w4 ⟨rfl, B', x, hp⟩
    have hnd : ¬ B.own bp (w.heap.size + 1 + 1) := HL3.out.book.mem.not_own HK3.out.did (by decide)
    obtain ⟨hd4, hno4⟩ := hp.bk.keep HK3.out.did hnd
    have HP := Lib.hid hp
    have HD4 := Lib.hid hd4
    have HNO := Lib.hid hno4
    clear hp hd4 hno4 hnd z0 z1 z2 z3 z4 z5 f0 f1 f2 f3 f4 f5
    obtain ⟨⟨z0, z1, z2, z3, z4, z5⟩, f0, f1, f2, f3, f4, f5⟩ := HD4.out.at6
    unfold didV
    go_wp2_with fail
    have hfin := HD4.out.store6 (.int .i64 1) (.int .i64 0) (.int .u32 0) (.int .u32 0) (.bool false) (.slice none 0 0)
    (try simp only [Exit.inBlock, Exit.then]); refine bodyPost_ret (results_cell2_row rfl _ _ (w.heap.size + 1 + 1) 46 #[.int .i64 1, .int .i64 0, .int .u32 0, .int .u32 0, .bool false, .slice none 0 0] (0, 0) _ rfl hfin Try.underlying46 rfl (by kernel_rfl)) rfl ?_
    have hto : BookTo w bp B w4 B' := BookTo.after HK3.out.below H0.out.book HP.out.bk
    refine ⟨by rw [if_neg (by rw [HBZ.out]; decide)]; rfl, ?_⟩
    unfold LEnd
    rw [HBZ.out, if_neg (by decide)]
    exact ⟨B', x, ⟨hto.store6 (by omega) HNO.out _ _ _ _ _ _, HP.out.N, HP.out.ser, HP.out.hs, HP.out.hg, HP.out.key, HP.out.arm, HP.out.put, HP.out.mn, HP.out.gens⟩⟩
  | true =>
    have g0 := HG3.out.frozen 0
    have g1 := HG3.out.frozen 1
    have HGB := Lib.hid (HR0.out.lt)
    go_upto_region 12 with fail
    have hG4 : Row ((w3.setCell ⟨gb, 0, none⟩ (.int .u32 gs)).setCell ⟨gb, 1, none⟩ (.int .u32 gg)) gb 82 [.int .u32 gs, .int .u32 gg] := (HG3.out.set 0 _).set 1 _
    have hD4 : Row ((w3.setCell ⟨gb, 0, none⟩ (.int .u32 gs)).setCell ⟨gb, 1, none⟩ (.int .u32 gg)) (w.heap.size + 1 + 1) 46 didZ := (HK3.out.did.far (p := ⟨gb, 0, none⟩) (by have := HGB.out; show w.heap.size + 1 + 1 ≠ gb; omega) _).far (p := ⟨gb, 1, none⟩) (by have := HGB.out; show w.heap.size + 1 + 1 ≠ gb; omega) _
    have hB4 : But (fun q => q = gb) w ((w3.setCell ⟨gb, 0, none⟩ (.int .u32 gs)).setCell ⟨gb, 1, none⟩ (.int .u32 gg)) := ((But.of_below HK3.out.below (fun q => q = gb)).set ⟨gb, 0, none⟩ _ rfl).set ⟨gb, 1, none⟩ _ rfl
    have HG4 := Lib.hid hG4
    have HD4 := Lib.hid hD4
    have HB4 := Lib.hid hB4
    clear hG4 hD4 hB4 z0 z1 z2 z3 z4 z5 f0 f1 f2 f3 f4 f5 HK3 HL3 HG3 n0 n1 q0 q1 r0 r1 g0 g1
    generalize (w3.setCell ⟨gb, 0, none⟩ (.int .u32 gs)).setCell ⟨gb, 1, none⟩ (.int .u32 gg) = w4 at *
    obtain ⟨⟨z0, z1, z2, z3, z4, z5⟩, f0, f1, f2, f3, f4, f5⟩ := HD4.out.at6
    go_wp2_with fail
    have hfin := HD4.out.store6 (.int .i64 0) (.int .i64 0) (.int .u32 0) (.int .u32 0) (.bool false) (.slice none 0 0)
    (try simp only [Exit.inBlock, Exit.then]); refine bodyPost_ret (results_cell2_row rfl _ _ (w.heap.size + 1 + 1) 46 #[.int .i64 0, .int .i64 0, .int .u32 0, .int .u32 0, .bool false, .slice none 0 0] (0, 0) _ rfl hfin Try.underlying46 rfl (by kernel_rfl)) rfl ?_
    refine ⟨by rw [if_pos HBZ.out]; rfl, ?_⟩
    unfold LEnd
    rw [HBZ.out, if_pos rfl]
    have hz : w.heap.size ≤ w.heap.size + 1 + 1 := by omega
    have hne : gb ≠ w.heap.size + 1 + 1 := by have := HGB.out; omega
    exact ⟨(((((HG4.out.far (p := ⟨_, 0, none⟩) hne _).far (p := ⟨_, 1, none⟩) hne _).far (p := ⟨_, 2, none⟩) hne _).far (p := ⟨_, 3, none⟩) hne _).far (p := ⟨_, 4, none⟩) hne _).far (p := ⟨_, 5, none⟩) hne _, HB4.out.store6New hz _ _ _ _ _ _⟩
end Go.Proofs.Ytkdiibgjkipdnaa
