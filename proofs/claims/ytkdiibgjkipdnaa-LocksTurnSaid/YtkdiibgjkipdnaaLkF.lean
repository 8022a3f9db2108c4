/-
  Wait of a wait group.
-/
import Derived.Test.YtkdiibgjkipdnaaLkE
namespace Go.Proofs.Ytkdiibgjkipdnaa
open Go.RowKit Go.Maps
set_option linter.unusedSimpArgs false
set_option linter.unusedVariables false

theorem may_no {N : List Nd} {hs hg : Int} (hz : sameH hs hg 0 0 = false) (h : ∀ x ∈ N, sameH x.rc.hs x.rc.hg hs hg = false) : mayV N hs hg = 0 := by
  unfold mayV
  rw [if_neg (by rw [hz]; decide), if_pos]
  rw [List.filter_eq_nil_iff]
  intro x hx e
  rw [h x hx] at e; cases e
theorem may_yes {N : List Nd} {hs hg : Int} (hz : sameH hs hg 0 0 = false) {x : Nd} (hx : x ∈ N) (h : sameH x.rc.hs x.rc.hg hs hg = true) : mayV N hs hg = 163 := by
  unfold mayV
  rw [if_neg (by rw [hz]; decide), if_neg]
  intro e
  rw [List.filter_eq_nil_iff] at e
  exact e x hx h
abbrev didZ : List Value := [.int .i64 0, .int .i64 0, .int .u32 0, .int .u32 0, .bool false, .slice none 0 0]
abbrev wWait (w : World) (gs gg s g : Int) : World := ((w.alloc (.cells #[.int .u32 gs, .int .u32 gg] 35)).alloc (.cells #[.int .u32 s, .int .u32 g] 35)).alloc zDid
/-- what Wait and Lock lay down first: who asks, of what, and the answer -/
structure Asks (w w1 : World) (gs gg s g : Int) : Prop where
  below : Below w.heap.size w w1
  who : Row w1 w.heap.size 35 [.int .u32 gs, .int .u32 gg]
  of : Row w1 (w.heap.size + 1) 35 [.int .u32 s, .int .u32 g]
  did : Row w1 (w.heap.size + 1 + 1) 46 didZ
theorem Asks.made (w : World) (gs gg s g : Int) : Asks w (wWait w gs gg s g) gs gg s g := by
  have hA : Below w.heap.size w (wWait w gs gg s g) := (((Below.refl _ _).alloc (Nat.le_refl _) _).alloc (by simp) _).alloc (by simp; omega) _
  have hR := ((Row.new w 35 [.int .u32 gs, .int .u32 gg]).alloc (.cells #[.int .u32 s, .int .u32 g] 35)).alloc zDid
  have hM := (Row.new (w.alloc (.cells #[.int .u32 gs, .int .u32 gg] 35)) 35 [.int .u32 s, .int .u32 g]).alloc zDid
  have hZ := Row.new ((w.alloc (.cells #[.int .u32 gs, .int .u32 gg] 35)).alloc (.cells #[.int .u32 s, .int .u32 g] 35)) 46 didZ
  rw [show (w.alloc (.cells #[.int .u32 gs, .int .u32 gg] 35)).heap.size = w.heap.size + 1 by simp] at hM
  rw [show ((w.alloc (.cells #[.int .u32 gs, .int .u32 gg] 35)).alloc (.cells #[.int .u32 s, .int .u32 g] 35)).heap.size = w.heap.size + 1 + 1 by simp] at hZ
  exact ⟨hA, hR, hM, hZ⟩
theorem Asks.next {w w1 w2 : World} {gs gg s g : Int} (h : Asks w w1 gs gg s g) (hb : Below w1.heap.size w1 w2) : Asks w w2 gs gg s g :=
  ⟨h.below.trans (hb.mono h.below.size), h.who.below hb h.who.lt, h.of.below hb h.of.lt, h.did.below hb h.did.lt⟩
/-- Wait of a goroutine that waits nowhere: parked just where the counter is not 0 -/
def WaitTo (w : World) (bp : Nat) (B : Bk) (k : Key) (n hs hg : Int) (e : Ending) (w' : World) : Prop :=
  if 0 < n then e = .returned (.tuple #[didV 1 (.slice none 0 0), .int .i64 0]) ∧ ∃ B' x, Parks w bp B k hs hg w' B' x
  else e = .returned (.tuple #[didV 0 (.slice none 0 0), .int .i64 0]) ∧ Below w.heap.size w w'
set_option maxHeartbeats 4000000 in
set_option maxRecDepth 100000 in
theorem waitIn_c (lp mp bp mn : Nat) (f : Int → Int → Value) (B : Bk) (s g gs gg : Int) (gb : Nat) (n : Int) (w : World) (h : LkAt w lp mp bp mn f B) (hs : (Lit.int .u32 s).wf = true) (hg : (Lit.int .u32 g).wf = true) (hgs : (Lit.int .u32 gs).wf = true) (hgg : (Lit.int .u32 gg).wf = true)
    (hf : f s g = groupV gb) (hr : Row w gb 85 [.int .i64 n]) (hz : sameH gs gg 0 0 = false) (hz2 : sameH s g 0 0 = false) (hser : ∀ x ∈ B.N, 0 ≤ x.ser) (hno : ∀ x ∈ B.N, sameH x.rc.hs x.rc.hg gs gg = false)
    (hgl : B.gens.length ≤ 99999) (hpl : B.put ≤ 99999) (hml : B.mn ≤ 99999) (hnl : B.N.length ≤ 99999) :
    Calls Try.prog 15 #[.pointer (some ⟨lp, 0, none⟩), .agg #[.int .u32 gs, .int .u32 gg], .agg #[.int .u32 s, .int .u32 g]] w (WaitTo w bp B ⟨s, g, 4⟩ n gs gg) := by
  have HK := Lib.hid (Asks.made w gs gg s g)
  have H0 := Lib.hid h
  have HL := Lib.hid (h.below HK.out.below)
  have HG := Lib.hid (hr.below HK.out.below hr.lt)
  have HM := Lib.hid (may_no hz hno)
  have HSER := Lib.hid hser
  have e1 := fun w => run_eql_handle s g 0 0 w
  rw [hz2] at e1
  have CP := Lib.hid (fun w' (hw' : LkAt w' lp mp bp mn f B) => park_c lp mp bp mn f B s g 4 gs gg w' hw' ⟨hs, hg, rfl⟩ hgs hgg hz (by omega) (fun x hx => by unfold hits; rw [hno x hx]; rfl) hgl hpl hml hnl)
  have HF := Lib.hid hf
  have HWF := Lib.hid (And.intro hs hg)
  have r0 := HK.out.who.cell 0
  have r1 := HK.out.who.cell 1
  dsimp only [List.getElem?_cons_zero, List.getElem?_cons_succ] at r0 r1
  clear h hr hz hz2 hser hno hgl hpl hml hnl hf hs hg hgs hgg
  go_enter Try.func15, Try.ntmps15
  go_wp2_with fail
  change Calls _ _ _ (wWait w gs gg s g) _
  have CM := Lib.hid (may_c lp mp bp mn f B gs gg _ HL.out HSER.out)
  rw [HM.out] at CM
  refine CM.out.mono ?_
  rintro e w2 ⟨rfl, hb2⟩
  have HK2 := Lib.hid (HK.out.next hb2)
  have HL2 := Lib.hid (HL.out.below hb2)
  have HG2 := Lib.hid (HG.out.below hb2 HG.out.lt)
  clear hb2 CM HK HL HG r0 r1
  have r0 := HK2.out.of.cell 0
  have r1 := HK2.out.of.cell 1
  have c1 := HL2.out.obj.cell 1
  dsimp only [List.getElem?_cons_zero, List.getElem?_cons_succ] at r0 r1 c1
  go_upto_region 6 with fail
  have hl := HL2.out.look HWF.out.1 HWF.out.2
  rw [HF.out] at hl
  unfold groupV at hl
  have hl0 := hl 0
  rw [World.drewN_zero] at hl0
  go_quiet (fail)
  have HK3 := Lib.hid (HK2.out.next (below_drewN (Below.refl _ _) nq))
  have HL3 := Lib.hid (HL2.out.below (below_drewN (Below.refl _ _) nq))
  have HG3 := Lib.hid (HG2.out.drewN nq)
  clear hl hl0 HK2 HL2 HG2 r0 r1 c1
  generalize w2.drewN nq = w3 at *
  have n0 := HG3.out.cell 0
  have q0 := HK3.out.who.cell 0
  have q1 := HK3.out.who.cell 1
  have r0 := HK3.out.of.cell 0
  have r1 := HK3.out.of.cell 1
  obtain ⟨⟨z0, z1, z2, z3, z4, z5⟩, f0, f1, f2, f3, f4, f5⟩ := HK3.out.did.at6
  dsimp only [List.getElem?_cons_zero, List.getElem?_cons_succ] at n0 q0 q1 r0 r1
  by_cases hn : 0 < n
  · have d0 : decide (0 < n) = true := decide_eq_true hn
    have HN := Lib.hid hn
    go_wp2_with fail
    refine (CP.out w3 HL3.out).mono ?_
    rintro e w4 ⟨rfl, B', x, hp⟩
    have hnd : ¬ B.own bp (w.heap.size + 1 + 1) := HL3.out.book.mem.not_own HK3.out.did (by decide)
    obtain ⟨hd4, hno4⟩ := hp.bk.keep HK3.out.did hnd
    have HP := Lib.hid hp
    have HD4 := Lib.hid hd4
    have HNO := Lib.hid hno4
    clear hp hd4 hno4 hnd z0 z1 z2 z3 z4 z5 f0 f1 f2 f3 f4 f5
    obtain ⟨⟨z0, z1, z2, z3, z4, z5⟩, f0, f1, f2, f3, f4, f5⟩ := HD4.out.at6
    unfold didV
    go_wp2_with fail
    have hfin := HD4.out.store6 (.int .i64 1) (.int .i64 0) (.int .u32 0) (.int .u32 0) (.bool false) (.slice none 0 0)
    (try simp only [Exit.inBlock, Exit.then]); refine bodyPost_ret (results_cell2_row rfl _ _ (w.heap.size + 1 + 1) 46 #[.int .i64 1, .int .i64 0, .int .u32 0, .int .u32 0, .bool false, .slice none 0 0] (0, 0) _ rfl hfin Try.underlying46 rfl (by kernel_rfl)) rfl ?_
    unfold WaitTo
    rw [if_pos HN.out]
    have hto : BookTo w bp B w4 B' := BookTo.after HK3.out.below H0.out.book HP.out.bk
    exact ⟨rfl, B', x, ⟨hto.store6 (by omega) HNO.out _ _ _ _ _ _, HP.out.N, HP.out.ser, HP.out.hs, HP.out.hg, HP.out.key, HP.out.arm, HP.out.put, HP.out.mn, HP.out.gens⟩⟩
  · have d0 : decide (0 < n) = false := decide_eq_false hn
    have HN := Lib.hid hn
    go_wp2_with fail
    have hfin := HK3.out.did.store6 (.int .i64 0) (.int .i64 0) (.int .u32 0) (.int .u32 0) (.bool false) (.slice none 0 0)
    (try simp only [Exit.inBlock, Exit.then]); refine bodyPost_ret (results_cell2_row rfl _ _ (w.heap.size + 1 + 1) 46 #[.int .i64 0, .int .i64 0, .int .u32 0, .int .u32 0, .bool false, .slice none 0 0] (0, 0) _ rfl hfin Try.underlying46 rfl (by kernel_rfl)) rfl ?_
    unfold WaitTo
    rw [if_neg (by have := HN.out; omega)]
    refine ⟨rfl, ?_⟩
    have hz : w.heap.size ≤ w.heap.size + 1 + 1 := by omega
    exact (((((HK3.out.below.setCell (p := ⟨_, 0, none⟩) hz _).setCell (p := ⟨_, 1, none⟩) hz _).setCell (p := ⟨_, 2, none⟩) hz _).setCell (p := ⟨_, 3, none⟩) hz _).setCell (p := ⟨_, 4, none⟩) hz _).setCell (p := ⟨_, 5, none⟩) hz _
end Go.Proofs.Ytkdiibgjkipdnaa
