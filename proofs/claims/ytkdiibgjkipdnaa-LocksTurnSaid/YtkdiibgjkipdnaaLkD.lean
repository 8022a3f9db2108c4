/-
  wake of locks.
-/
import Derived.Test.YtkdiibgjkipdnaaLkC
import Derived.Deep.CutBlock
import Derived.Deep.DeepCutAuto
namespace Go.Proofs.Ytkdiibgjkipdnaa
open Go.RowKit Go.Maps
set_option linter.unusedSimpArgs false
set_option linter.unusedVariables false

abbrev zWake : Obj := .cells #[.int .u32 0, .int .u32 0, .int .i64 0, .int .i64 0, .int .u32 0, .int .u32 0, .bool false, .int .i64 0] 53
def wakeL (a b arm : Int) : List Value := [.int .u32 a, .int .u32 b, .int .i64 arm, .int .i64 0, .int .u32 0, .int .u32 0, .bool false, .int .i64 0]
def wakeV (a b arm : Int) : Value := .agg (wakeL a b arm).toArray
def WakeTo (w : World) (bp : Nat) (B : Bk) (k : Key) (e : Ending) (w' : World) : Prop := match (inRow k B.N).head? with
  | some x => e = .returned (.tuple #[wakeV x.rc.hs x.rc.hg x.rc.arm, .bool true]) ∧ BookTo w bp B w' (B.left x.rc.hs x.rc.hg)
  | none => e = .returned (.tuple #[wakeV 0 0 0, .bool false]) ∧ BookTo w bp B w' B
theorem Row.store8 {w : World} {b e : Nat} {x0 x1 x2 x3 x4 x5 x6 x7 : Value} (h : Row w b e [x0, x1, x2, x3, x4, x5, x6, x7]) (v0 v1 v2 v3 v4 v5 v6 v7 : Value) :
    Row ((((((((w.setCell ⟨b, 0, none⟩ v0).setCell ⟨b, 1, none⟩ v1).setCell ⟨b, 2, none⟩ v2).setCell ⟨b, 3, none⟩ v3).setCell ⟨b, 4, none⟩ v4).setCell ⟨b, 5, none⟩ v5).setCell ⟨b, 6, none⟩ v6).setCell ⟨b, 7, none⟩ v7) b e [v0, v1, v2, v3, v4, v5, v6, v7] :=
  ((((((((h.set 0 _).set 1 _).set 2 _).set 3 _).set 4 _).set 5 _).set 6 _).set 7 _)
theorem BookTo.store8 {w w' : World} {bp : Nat} {B B' : Bk} (k : BookTo w bp B w' B') {z : Nat} (hz : w.heap.size ≤ z) (hzo : ¬ B'.own bp z) (v0 v1 v2 v3 v4 v5 v6 v7 : Value) :
    BookTo w bp B ((((((((w'.setCell ⟨z, 0, none⟩ v0).setCell ⟨z, 1, none⟩ v1).setCell ⟨z, 2, none⟩ v2).setCell ⟨z, 3, none⟩ v3).setCell ⟨z, 4, none⟩ v4).setCell ⟨z, 5, none⟩ v5).setCell ⟨z, 6, none⟩ v6).setCell ⟨z, 7, none⟩ v7) B' :=
  (((((((k.store1 hz hzo 0 v0).store1 hz hzo 1 v1).store1 hz hzo 2 v2).store1 hz hzo 3 v3).store1 hz hzo 4 v4).store1 hz hzo 5 v5).store1 hz hzo 6 v6).store1 hz hzo 7 v7
theorem Row.at8 {w : World} {b e : Nat} {x0 x1 x2 x3 x4 x5 x6 x7 : Value} (h : Row w b e [x0, x1, x2, x3, x4, x5, x6, x7]) : (w.cell? ⟨b, 0, none⟩ = some x0 ∧ w.cell? ⟨b, 1, none⟩ = some x1 ∧ w.cell? ⟨b, 2, none⟩ = some x2 ∧ w.cell? ⟨b, 3, none⟩ = some x3 ∧ w.cell? ⟨b, 4, none⟩ = some x4 ∧ w.cell? ⟨b, 5, none⟩ = some x5 ∧ w.cell? ⟨b, 6, none⟩ = some x6 ∧ w.cell? ⟨b, 7, none⟩ = some x7) ∧ w.frozen? ⟨b, 0, none⟩ = false ∧ w.frozen? ⟨b, 1, none⟩ = false ∧ w.frozen? ⟨b, 2, none⟩ = false ∧ w.frozen? ⟨b, 3, none⟩ = false ∧ w.frozen? ⟨b, 4, none⟩ = false ∧ w.frozen? ⟨b, 5, none⟩ = false ∧ w.frozen? ⟨b, 6, none⟩ = false ∧ w.frozen? ⟨b, 7, none⟩ = false :=
  ⟨⟨h.cell 0, h.cell 1, h.cell 2, h.cell 3, h.cell 4, h.cell 5, h.cell 6, h.cell 7⟩, h.frozen 0, h.frozen 1, h.frozen 2, h.frozen 3, h.frozen 4, h.frozen 5, h.frozen 6, h.frozen 7⟩
set_option maxHeartbeats 2000000 in
set_option maxRecDepth 100000 in
theorem wake_c (lp mp bp mn : Nat) (f : Int → Int → Value) (B : Bk) (s g sd : Int) (w : World) (h : LkAt w lp mp bp mn f B) (hk : Key.Ok ⟨s, g, sd⟩) (hN : B.N.length ≤ 100000) :
    Calls Try.prog 21 #[.pointer (some ⟨lp, 0, none⟩), .agg #[.int .u32 s, .int .u32 g], .int .i64 sd] w (WakeTo w bp B ⟨s, g, sd⟩) := by
  have hA : Below w.heap.size w ((w.alloc (.cells #[.int .u32 s, .int .u32 g] 35)).alloc zWake) := ((Below.refl _ _).alloc (Nat.le_refl _) _).alloc (by simp) _
  have hR := (Row.new w 35 [.int .u32 s, .int .u32 g]).alloc zWake
  change Row ((w.alloc (.cells #[.int .u32 s, .int .u32 g] 35)).alloc zWake) _ _ _ at hR
  have hZ := Row.new (w.alloc (.cells #[.int .u32 s, .int .u32 g] 35)) 53 [.int .u32 0, .int .u32 0, .int .i64 0, .int .i64 0, .int .u32 0, .int .u32 0, .bool false, .int .i64 0]
  rw [show (w.alloc (.cells #[.int .u32 s, .int .u32 g] 35)).heap.size = w.heap.size + 1 by simp] at hZ
  change Row ((w.alloc (.cells #[.int .u32 s, .int .u32 g] 35)).alloc zWake) _ _ _ at hZ
  have H := Lib.hid (h.below hA)
  have H0 := Lib.hid h.book
  have HA := Lib.hid hA
  have HZ := Lib.hid hZ
  have r0 := hR.cell 0
  have r1 := hR.cell 1
  have c0 := H.out.obj.cell 0
  dsimp only [List.getElem?_cons_zero, List.getElem?_cons_succ] at r0 r1 c0
  have HNO := Lib.hid (fun e => by have := h.book.mem.lt e; omega : ¬ B.own bp (w.heap.size + 1))
  have HK := Lib.hid hk
  have HNL := Lib.hid hN
  obtain ⟨y, is, hfst, hisc⟩ : ∃ (y : Rc) (is : Bool), firstV (inRow ⟨s, g, sd⟩ B.N).head? = .tuple #[y.agg, .bool is] ∧ ((∃ x, (inRow ⟨s, g, sd⟩ B.N).head? = some x ∧ is = true ∧ x.rc = y) ∨ (inRow ⟨s, g, sd⟩ B.N).head? = none ∧ is = false ∧ y = zeroRc) := by
    cases h2 : (inRow ⟨s, g, sd⟩ B.N).head? with
    | none => exact ⟨zeroRc, false, rfl, .inr ⟨rfl, rfl, rfl⟩⟩
    | some x => exact ⟨x.rc, true, rfl, .inl ⟨x, rfl, rfl, rfl⟩⟩
  have HIS := Lib.hid hisc
  clear h hA hR hZ hk hN hisc
  go_enter Try.func21, Try.ntmps21
  go_upto_region 1 with fail
  generalize (w.alloc (.cells #[.int .u32 s, .int .u32 g] 35)).alloc zWake = w1 at *
  have CF := Lib.hid (fun w' (hw' : Below w1.heap.size w1 w') => first_c bp B ⟨s, g, sd⟩ w' (H.out.book.below hw') HK.out)
  rw [hfst] at CF
  clear hfst
  obtain ⟨y0, y1, y2, y3, y4, y5, y6, y7, y8, y9, y10⟩ := y
  simp only [Rc.agg, Rc.cells] at CF
  have HS : Hid (∀ w', Below w1.heap.size w1 w' → Below w1.heap.size w1 w' ∧ w'.cell? ⟨lp, 0, none⟩ = some (.pointer (some ⟨bp, 0, none⟩)) ∧ w'.cell? ⟨w.heap.size, 0, none⟩ = some (.int .u32 s) ∧ w'.cell? ⟨w.heap.size, 1, none⟩ = some (.int .u32 g)) := Lib.hid fun w' hB => ⟨hB, (hB.cell (p := ⟨lp, 0, none⟩) (cell_lt c0)).trans c0, (hB.cell (p := ⟨w.heap.size, 0, none⟩) (cell_lt r0)).trans r0, (hB.cell (p := ⟨w.heap.size, 1, none⟩) (cell_lt r1)).trans r1⟩
  have HDZ : Hid (Row (w1.alloc (.cells #[.int .u32 0, .int .u32 0, .int .u32 0, .int .u32 0, .int .u32 0, .int .u32 0, .int .i64 0, .int .i64 0, .int .i64 0, .int .u32 0, .int .u32 0] 96)).drew w1.heap.size 96 [.int .u32 0, .int .u32 0, .int .u32 0, .int .u32 0, .int .u32 0, .int .u32 0, .int .i64 0, .int .i64 0, .int .i64 0, .int .u32 0, .int .u32 0]) := Lib.hid (Row.drew (Row.new w1 96 [.int .u32 0, .int .u32 0, .int .u32 0, .int .u32 0, .int .u32 0, .int .u32 0, .int .i64 0, .int .i64 0, .int .i64 0, .int .u32 0, .int .u32 0]))
  go_cut [8, 9] (fun v8 v9 wx => ∃ z, v8 = .pointer (some ⟨z, 0, none⟩) ∧ v9 = .bool is ∧ Row wx z 96 [.int .u32 y0, .int .u32 y1, .int .u32 y2, .int .u32 y3, .int .u32 y4, .int .u32 y5, .int .i64 y6, .int .i64 y7, .int .i64 y8, .int .u32 y9, .int .u32 y10] ∧ w1.heap.size ≤ z ∧ Below w1.heap.size w1 wx)
  case first =>
    go_region_held3 (fun w' => Below w1.heap.size w1 w' ∧ w'.cell? ⟨lp, 0, none⟩ = some (.pointer (some ⟨bp, 0, none⟩)) ∧ w'.cell? ⟨w.heap.size, 0, none⟩ = some (.int .u32 s) ∧ w'.cell? ⟨w.heap.size, 1, none⟩ = some (.int .u32 g))
      ((refine HS.out _ ?_; first
        | with_reducible exact (Below.refl _ _).drew
        | with_reducible exact hX9
        | with_reducible exact hX9.alloc hX9.size _
        | with_reducible exact ((Below.refl _ _).alloc (Nat.le_refl _) _).drew
        | with_reducible exact below_store11 hX9 (Nat.le_refl _) _ _ _ _ _ _ _ _ _ _ _))
      ((go_at_call 24; obtain ⟨hX, _⟩ := ‹Below w1.heap.size w1 _ ∧ _›; (with_reducible refine (CF.out _ hX).mono ?_); rintro e w9 ⟨rfl, hb9⟩; have hX9 := hX.trans (hb9.mono hX.size); (try (have hrz := (by with_reducible exact HDZ.out.grown hb9 : Row w9 w1.heap.size 96 [.int .u32 0, .int .u32 0, .int .u32 0, .int .u32 0, .int .u32 0, .int .u32 0, .int .i64 0, .int .i64 0, .int .i64 0, .int .u32 0, .int .u32 0]); have hrz2 := hrz.at11; obtain ⟨⟨t0, t1, t2, t3, t4, t5, t6, t7, t8, t9, t10⟩, g0, g1, g2, g3, g4, g5, g6, g7, g8, g9, g10⟩ := hrz2))))
    all_goals (
      go_wp2
      go_meet
      first
        | (with_reducible exact ⟨w9.heap.size, rfl, rfl, Row.new w9 96 [.int .u32 y0, .int .u32 y1, .int .u32 y2, .int .u32 y3, .int .u32 y4, .int .u32 y5, .int .i64 y6, .int .i64 y7, .int .i64 y8, .int .u32 y9, .int .u32 y10], hX9.size, hX9.alloc hX9.size _⟩)
        | (with_reducible exact ⟨w1.heap.size, rfl, rfl, hrz.store11 _ _ _ _ _ _ _ _ _ _ _, Nat.le_refl _, below_store11 hX9 (Nat.le_refl _) _ _ _ _ _ _ _ _ _ _ _⟩))
  case rest =>
  obtain ⟨zr, hv8, hv9, hrow, hzr, hb⟩ := hcut
  subst hv8
  subst hv9
  have HB := Lib.hid (HA.out.trans (hb.mono HA.out.size))
  have HW := Lib.hid (H.out.below hb)
  have HR := Lib.hid hrow
  have HZ2 := Lib.hid (HZ.out.below hb HZ.out.lt)
  clear hrow hb CF HS H HA HZ r0 r1 c0
  have c0 := HW.out.obj.cell 0
  obtain ⟨⟨x0, x1, x2, x3, x4, x5, x6, x7, x8, x9, x10⟩, _⟩ := HR.out.at11
  dsimp only [List.getElem?_cons_zero, List.getElem?_cons_succ] at c0
  have hzl : w.heap.size ≤ w.heap.size + 1 := by omega
  rcases HIS.out with ⟨x, hx, rfl, hxy⟩ | ⟨hn, rfl, hz⟩
  · have CL := Lib.hid (fun d => leave_c bp B y2 y3 (wc.drewN d) (HW.out.book.below (below_drewN (Below.refl _ _) d)) HNL.out)
    have HX := Lib.hid hx
    have HXY := Lib.hid hxy
    clear hx hxy
    go_upto_region 3 with fail
    have CL1 := Lib.hid (CL.out 1)
    clear CL
    go_still_tail 6, (by kernel_rfl)
    change wpList _ _ _ _ _ wc.drew
    go_wp2_with fail
    refine CL1.out.mono ?_
    rintro e w3 ⟨rfl, hto⟩
    have hnw : ¬ B.own bp zr := (HW.out.book.mem.not_own HR.out (by decide))
    obtain ⟨hr3, _⟩ := hto.keep (Row.drew HR.out) hnw
    obtain ⟨hz3, hno3⟩ := hto.keep (Row.drew HZ2.out) HNO.out
    have HTO := Lib.hid (BookTo.after (HB.out.trans (Below.drew (Below.refl _ _) |>.mono HB.out.size)) H0.out hto)
    have HZ3 := Lib.hid hz3
    have HNO3 := Lib.hid hno3
    clear hto hnw hz3 hno3 CL1 x0 x1 x2 x3 x4 x5 x6 x7 x8 x9 x10 c0
    obtain ⟨⟨x0, x1, x2, x3, x4, x5, x6, x7, x8, x9, x10⟩, _⟩ := hr3.at11
    obtain ⟨⟨z0, z1, z2, z3, z4, z5, z6, z7⟩, f0, f1, f2, f3, f4, f5, f6, f7⟩ := HZ3.out.at8
    clear hr3
    go_wp2_with fail
    have hfin := HZ3.out.store8 (.int .u32 y2) (.int .u32 y3) (.int .i64 y7) (.int .i64 0) (.int .u32 0) (.int .u32 0) (.bool false) (.int .i64 0)
    (try simp only [Exit.inBlock, Exit.then]); refine bodyPost_ret (results_cell2_row rfl _ _ (w.heap.size + 1) 53 #[.int .u32 y2, .int .u32 y3, .int .i64 y7, .int .i64 0, .int .u32 0, .int .u32 0, .bool false, .int .i64 0] (0, 0) _ rfl hfin Try.underlying53 rfl (by kernel_rfl)) rfl ?_
    unfold WakeTo
    rw [HX.out]
    dsimp only
    rw [HXY.out]
    exact ⟨rfl, HTO.out.store8 hzl HNO3.out _ _ _ _ _ _ _ _⟩
  · have hz2 : y0 = 0 ∧ y1 = 0 ∧ y2 = 0 ∧ y3 = 0 ∧ y4 = 0 ∧ y5 = 0 ∧ y6 = 0 ∧ y7 = 0 ∧ y8 = 0 ∧ y9 = 0 ∧ y10 = 0 := by simpa [zeroRc] using hz
    obtain ⟨rfl, rfl, rfl, rfl, rfl, rfl, rfl, rfl, rfl, rfl, rfl⟩ := hz2
    have HN := Lib.hid hn
    obtain ⟨⟨z0, z1, z2, z3, z4, z5, z6, z7⟩, f0, f1, f2, f3, f4, f5, f6, f7⟩ := HZ2.out.at8
    clear hz hn c0
    go_wp2_with fail
    have hfin := HZ2.out.store8 (.int .u32 0) (.int .u32 0) (.int .i64 0) (.int .i64 0) (.int .u32 0) (.int .u32 0) (.bool false) (.int .i64 0)
    (try simp only [Exit.inBlock, Exit.then]); refine bodyPost_ret (results_cell2_row rfl _ _ (w.heap.size + 1) 53 #[.int .u32 0, .int .u32 0, .int .i64 0, .int .i64 0, .int .u32 0, .int .u32 0, .bool false, .int .i64 0] (0, 0) _ rfl hfin Try.underlying53 rfl (by kernel_rfl)) rfl ?_
    unfold WakeTo
    rw [HN.out]
    exact ⟨rfl, ((BookTo.refl H0.out).then HB.out).store8 hzl HNO.out _ _ _ _ _ _ _ _⟩
end Go.Proofs.Ytkdiibgjkipdnaa
