/-
  tally.Of: what is said of all.
-/
import Derived.Test.YtfiimmbpfdpjfaaSumA
namespace Go.Proofs.Ytfiimmbpfdpjfaa
open Go.RowKit
set_option linter.unusedSimpArgs false

abbrev zeroSum : List Value := [.string { data := #[] }, .int .i64 0, .int .i64 0, .float .f64 0, .float .f64 0, .float .f64 0, .float .f64 0]
/-- a whole struct is stored -/
theorem Row.store7 {w : World} {b e : Nat} {x0 x1 x2 x3 x4 x5 x6 : Value} (h : Row w b e [x0, x1, x2, x3, x4, x5, x6]) (v0 v1 v2 v3 v4 v5 v6 : Value) :
    Row (((((((w.setCell ⟨b, 0, none⟩ v0).setCell ⟨b, 1, none⟩ v1).setCell ⟨b, 2, none⟩ v2).setCell ⟨b, 3, none⟩ v3).setCell ⟨b, 4, none⟩ v4).setCell ⟨b, 5, none⟩ v5).setCell ⟨b, 6, none⟩ v6) b e [v0, v1, v2, v3, v4, v5, v6] :=
  ((((((h.set 0 _).set 1 _).set 2 _).set 3 _).set 4 _).set 5 _).set 6 _
theorem below_store7 {w0 w : World} {B b : Nat} (h : Below B w0 w) (hb : B ≤ b) (v0 v1 v2 v3 v4 v5 v6 : Value) :
    Below B w0 (((((((w.setCell ⟨b, 0, none⟩ v0).setCell ⟨b, 1, none⟩ v1).setCell ⟨b, 2, none⟩ v2).setCell ⟨b, 3, none⟩ v3).setCell ⟨b, 4, none⟩ v4).setCell ⟨b, 5, none⟩ v5).setCell ⟨b, 6, none⟩ v6) :=
  ((((((h.setCell (p := ⟨b, 0, none⟩) hb _).setCell (p := ⟨b, 1, none⟩) hb _).setCell (p := ⟨b, 2, none⟩) hb _).setCell (p := ⟨b, 3, none⟩) hb _).setCell (p := ⟨b, 4, none⟩) hb _).setCell (p := ⟨b, 5, none⟩) hb _).setCell (p := ⟨b, 6, none⟩) hb _
theorem Row.at7 {w : World} {b e : Nat} {x0 x1 x2 x3 x4 x5 x6 : Value} (h : Row w b e [x0, x1, x2, x3, x4, x5, x6]) :
    (w.cell? ⟨b, 0, none⟩ = some x0 ∧ w.cell? ⟨b, 1, none⟩ = some x1 ∧ w.cell? ⟨b, 2, none⟩ = some x2 ∧ w.cell? ⟨b, 3, none⟩ = some x3 ∧ w.cell? ⟨b, 4, none⟩ = some x4 ∧ w.cell? ⟨b, 5, none⟩ = some x5 ∧ w.cell? ⟨b, 6, none⟩ = some x6) ∧
    w.frozen? ⟨b, 0, none⟩ = false ∧ w.frozen? ⟨b, 1, none⟩ = false ∧ w.frozen? ⟨b, 2, none⟩ = false ∧ w.frozen? ⟨b, 3, none⟩ = false ∧ w.frozen? ⟨b, 4, none⟩ = false ∧ w.frozen? ⟨b, 5, none⟩ = false ∧ w.frozen? ⟨b, 6, none⟩ = false :=
  ⟨⟨h.cell 0, h.cell 1, h.cell 2, h.cell 3, h.cell 4, h.cell 5, h.cell 6⟩, h.frozen 0, h.frozen 1, h.frozen 2, h.frozen 3, h.frozen 4, h.frozen 5, h.frozen 6⟩
def ofS (ss : List St) : Sm := sumS ss ByteArray.empty (byV (sumV (valuesV ss 1)) (sumV (valuesV ss 1)))
set_option maxHeartbeats 2000000 in
set_option maxRecDepth 100000 in
theorem of_c (A : Option Addr) (n c : Nat) (ss : List St) (w : World) (h : Ss w A n ss) (hn : n ≤ 1000) :
    Calls Try.prog 9 #[.slice A n c] w fun e w' => e = .returned (ofS ss).agg ∧ Below w.heap.size w w' := by
  have HS := Lib.hid h
  have CS := Lib.hid (fun w h => tsum_c' A n c ss w h hn)
  unfold ofS sumS at *
  clear h
  go_enter Try.func9, Try.ntmps9
  go_wp2_with fail
  have hR0 := Row.new w 28 zeroSum
  have hB0 : Below w.heap.size w (w.alloc (Obj.cells zeroSum.toArray 28)) := (Below.refl _ _).alloc (Nat.le_refl _) _
  change Row (w.alloc (Obj.cells #[.string { data := #[] }, .int .i64 0, .int .i64 0, .float .f64 0, .float .f64 0, .float .f64 0, .float .f64 0] 28)) _ _ _ at hR0
  change Below _ _ (w.alloc (Obj.cells #[.string { data := #[] }, .int .i64 0, .int .i64 0, .float .f64 0, .float .f64 0, .float .f64 0, .float .f64 0] 28)) at hB0
  generalize w.alloc (Obj.cells #[.string { data := #[] }, .int .i64 0, .int .i64 0, .float .f64 0, .float .f64 0, .float .f64 0, .float .f64 0] 28) = w0 at *
  have HR0 := Lib.hid hR0
  have HB0 := Lib.hid hB0
  obtain ⟨s0, hs0⟩ : ∃ s0, w.heap.size = s0 := ⟨_, rfl⟩
  rw [hs0] at HR0 ⊢
  have HE0 := Lib.hid hs0
  clear hR0
  refine (CS.out w0 (HS.out.below hB0)).mono ?_
  rintro e w1 ⟨rfl, hb1⟩
  have HR1 := Lib.hid (HR0.out.grown hb1)
  have HB1 : Hid (Below s0 w w1) := Lib.hid (by rw [← hs0]; exact hB0.trans (hb1.mono hB0.size))
  have hs1 : s0 < w1.heap.size := HR1.out.lt
  obtain ⟨be, hbe⟩ : ∃ be, sumV (valuesV ss 1) = be := ⟨_, rfl⟩
  obtain ⟨ra, hra⟩ : ∃ ra, meanV (valuesV ss 5) = ra := ⟨_, rfl⟩
  obtain ⟨fr, hfa⟩ : ∃ fr, fairV (valuesV ss 1) = fr := ⟨_, rfl⟩
  obtain ⟨gn, hgn⟩ : ∃ gn : Int, ((ss.length : Nat) : Int) = gn := ⟨_, rfl⟩
  obtain ⟨gf, hfn⟩ : ∃ gf : Int, ((finK ss : Nat) : Int) = gf := ⟨_, rfl⟩
  rw [hbe, hra, hfa, hgn, hfn]
  have HX := Lib.hid (And.intro hbe (And.intro hra (And.intro hfa (And.intro hgn hfn))))
  clear hb1 hB0 hs0 hbe hra hfa hgn hfn CS
  simp only [Sm.agg, Sm.cells]
  have hRA := Row.new w1 28 [.string ByteArray.empty, .int .i64 gn, .int .i64 gf, .float .f64 be, .float .f64 ra, .float .f64 0, .float .f64 fr]
  have HRA := Lib.hid hRA
  clear hRA
  go_wp2_with fail
  have HR2 := Lib.hid (HR1.out.alloc (Obj.cells #[.string ByteArray.empty, .int .i64 gn, .int .i64 gf, .float .f64 be, .float .f64 ra, .float .f64 0, .float .f64 fr] 28))
  have HB2 := Lib.hid (HB1.out.alloc (by omega) (Obj.cells #[.string ByteArray.empty, .int .i64 gn, .int .i64 gf, .float .f64 be, .float .f64 ra, .float .f64 0, .float .f64 fr] 28))
  obtain ⟨bo, hbo⟩ : ∃ bo, w1.heap.size = bo := ⟨_, rfl⟩
  rw [hbo] at HRA hs1 ⊢
  change Hid (Row (w1.alloc (Obj.cells #[.string ByteArray.empty, .int .i64 gn, .int .i64 gf, .float .f64 be, .float .f64 ra, .float .f64 0, .float .f64 fr] 28)) _ _ _) at HRA
  generalize w1.alloc (Obj.cells #[.string ByteArray.empty, .int .i64 gn, .int .i64 gf, .float .f64 be, .float .f64 ra, .float .f64 0, .float .f64 fr] 28) = w2 at *
  clear hbo HR1 HB1
  refine (one_c _ _).mono ?_
  rintro e w3 ⟨rfl, rfl⟩
  rw [one_quo]
  generalize fn BinOp.quo be be = d
  obtain ⟨sh, hsh⟩ : ∃ sh, byV be be = sh := ⟨_, rfl⟩
  rw [hsh]
  have HSH := Lib.hid hsh
  clear hsh
  have HR3 := Lib.hid (HR2.out.drewN d)
  have HB3 := Lib.hid (below_drewN HB2.out d)
  have HRB := Lib.hid (HRA.out.drewN d)
  generalize w2.drewN d = w3 at *
  clear HR2 HB2 HRA
  obtain ⟨⟨b0, b1, b2, b3, b4, b5, b6⟩, _, _, _, _, _, f5, _⟩ := HRB.out.at7
  obtain ⟨⟨z0, z1, z2, z3, z4, z5, z6⟩, g0, g1, g2, g3, g4, g5, g6⟩ := (HR3.out.far (p := ⟨bo, 5, none⟩) (by show s0 ≠ bo; omega) (.float .f64 sh)).at7
  have HR4 := Lib.hid (HR3.out.far (p := ⟨bo, 5, none⟩) (by show s0 ≠ bo; omega) (.float .f64 sh))
  have HB4 := Lib.hid (HB3.out.setCell (p := ⟨bo, 5, none⟩) (by show s0 ≤ bo; omega) (.float .f64 sh))
  go_wp2_with fail
  have HW := HR4.out.store7 (.string ByteArray.empty) (.int .i64 gn) (.int .i64 gf) (.float .f64 be) (.float .f64 ra) (.float .f64 sh) (.float .f64 fr)
  have HBW := below_store7 HB4.out (Nat.le_refl s0) (.string ByteArray.empty) (.int .i64 gn) (.int .i64 gf) (.float .f64 be) (.float .f64 ra) (.float .f64 sh) (.float .f64 fr)
  generalize World.setCell _ ⟨s0, 6, none⟩ (Value.float .f64 fr) = W at *
  obtain ⟨⟨y0, y1, y2, y3, y4, y5, y6⟩, _⟩ := HW.at7
  try simp only [Exit.inBlock, Exit.then]
  refine bodyPost_ret (v := .agg #[.string ByteArray.empty, .int .i64 gn, .int .i64 gf, .float .f64 be, .float .f64 ra, .float .f64 sh, .float .f64 fr]) (by simp [results, Try.results9, go_sem, y0, y1, y2, y3, y4, y5, y6]) rfl ?_
  obtain ⟨e1, e2, e3, e4, e5⟩ := HX.out
  refine ⟨?_, by rw [HE0.out]; exact HBW⟩
  rw [e1, e2, e3, e4, e5, HSH.out]
  rfl
end Go.Proofs.Ytfiimmbpfdpjfaa
