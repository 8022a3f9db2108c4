/-
  Get of a book.
-/
import Derived.Test.YtgndpodeedjohaaWqD
namespace Go.Proofs.Ytgndpodeedjohaa
open Go.RowKit Go.Maps
set_option linter.unusedSimpArgs false

abbrev zeroRec : List Value := [.int .u32 0, .int .u32 0, .int .u32 0, .int .u32 0, .int .u32 0, .int .u32 0, .int .i64 0, .int .i64 0, .int .i64 0, .int .u32 0, .int .u32 0]
def zeroRc : Rc := ⟨0, 0, 0, 0, 0, 0, 0, 0, 0, 0, 0⟩
/-- a whole record is stored -/
theorem Row.store11 {w : World} {b e : Nat} {x0 x1 x2 x3 x4 x5 x6 x7 x8 x9 x10 : Value} (h : Row w b e [x0, x1, x2, x3, x4, x5, x6, x7, x8, x9, x10]) (v0 v1 v2 v3 v4 v5 v6 v7 v8 v9 v10 : Value) :
    Row (((((((((((w.setCell ⟨b, 0, none⟩ v0).setCell ⟨b, 1, none⟩ v1).setCell ⟨b, 2, none⟩ v2).setCell ⟨b, 3, none⟩ v3).setCell ⟨b, 4, none⟩ v4).setCell ⟨b, 5, none⟩ v5).setCell ⟨b, 6, none⟩ v6).setCell ⟨b, 7, none⟩ v7).setCell ⟨b, 8, none⟩ v8).setCell ⟨b, 9, none⟩ v9).setCell ⟨b, 10, none⟩ v10) b e [v0, v1, v2, v3, v4, v5, v6, v7, v8, v9, v10] :=
  (((((((((((h.set 0 _).set 1 _).set 2 _).set 3 _).set 4 _).set 5 _).set 6 _).set 7 _).set 8 _).set 9 _).set 10 _)
theorem below_store11 {w0 w : World} {B b : Nat} (h : Below B w0 w) (hb : B ≤ b) (v0 v1 v2 v3 v4 v5 v6 v7 v8 v9 v10 : Value) :
    Below B w0 (((((((((((w.setCell ⟨b, 0, none⟩ v0).setCell ⟨b, 1, none⟩ v1).setCell ⟨b, 2, none⟩ v2).setCell ⟨b, 3, none⟩ v3).setCell ⟨b, 4, none⟩ v4).setCell ⟨b, 5, none⟩ v5).setCell ⟨b, 6, none⟩ v6).setCell ⟨b, 7, none⟩ v7).setCell ⟨b, 8, none⟩ v8).setCell ⟨b, 9, none⟩ v9).setCell ⟨b, 10, none⟩ v10) :=
  (((((((((((h.setCell (p := ⟨b, 0, none⟩) hb _).setCell (p := ⟨b, 1, none⟩) hb _).setCell (p := ⟨b, 2, none⟩) hb _).setCell (p := ⟨b, 3, none⟩) hb _).setCell (p := ⟨b, 4, none⟩) hb _).setCell (p := ⟨b, 5, none⟩) hb _).setCell (p := ⟨b, 6, none⟩) hb _).setCell (p := ⟨b, 7, none⟩) hb _).setCell (p := ⟨b, 8, none⟩) hb _).setCell (p := ⟨b, 9, none⟩) hb _).setCell (p := ⟨b, 10, none⟩) hb _)
theorem Row.at11 {w : World} {b e : Nat} {x0 x1 x2 x3 x4 x5 x6 x7 x8 x9 x10 : Value} (h : Row w b e [x0, x1, x2, x3, x4, x5, x6, x7, x8, x9, x10]) : (w.cell? ⟨b, 0, none⟩ = some x0 ∧ w.cell? ⟨b, 1, none⟩ = some x1 ∧ w.cell? ⟨b, 2, none⟩ = some x2 ∧ w.cell? ⟨b, 3, none⟩ = some x3 ∧ w.cell? ⟨b, 4, none⟩ = some x4 ∧ w.cell? ⟨b, 5, none⟩ = some x5 ∧ w.cell? ⟨b, 6, none⟩ = some x6 ∧ w.cell? ⟨b, 7, none⟩ = some x7 ∧ w.cell? ⟨b, 8, none⟩ = some x8 ∧ w.cell? ⟨b, 9, none⟩ = some x9 ∧ w.cell? ⟨b, 10, none⟩ = some x10) ∧ w.frozen? ⟨b, 0, none⟩ = false ∧ w.frozen? ⟨b, 1, none⟩ = false ∧ w.frozen? ⟨b, 2, none⟩ = false ∧ w.frozen? ⟨b, 3, none⟩ = false ∧ w.frozen? ⟨b, 4, none⟩ = false ∧ w.frozen? ⟨b, 5, none⟩ = false ∧ w.frozen? ⟨b, 6, none⟩ = false ∧ w.frozen? ⟨b, 7, none⟩ = false ∧ w.frozen? ⟨b, 8, none⟩ = false ∧ w.frozen? ⟨b, 9, none⟩ = false ∧ w.frozen? ⟨b, 10, none⟩ = false :=
  ⟨⟨h.cell 0, h.cell 1, h.cell 2, h.cell 3, h.cell 4, h.cell 5, h.cell 6, h.cell 7, h.cell 8, h.cell 9, h.cell 10⟩, h.frozen 0, h.frozen 1, h.frozen 2, h.frozen 3, h.frozen 4, h.frozen 5, h.frozen 6, h.frozen 7, h.frozen 8, h.frozen 9, h.frozen 10⟩
def getV (o : Option Nd) : Value := match o with
  | some x => .tuple #[x.rc.agg, .int .i64 0]
  | none => .tuple #[zeroRc.agg, .int .i64 111]
set_option maxHeartbeats 2000000 in
set_option maxRecDepth 100000 in
theorem get_c (bp : Nat) (B : Bk) (s g : Int) (w : World) (h : BookAt w bp B) (hs : 0 ≤ s ∧ s < 4294967296) :
    Calls Try.prog 18 #[.pointer (some ⟨bp, 0, none⟩), .agg #[.int .u32 s, .int .u32 g]] w fun e w' =>
      e = .returned (getV (fnd B.N s g)) ∧ Below w.heap.size w w' := by
  have hA : Below w.heap.size w ((w.alloc (.cells #[.int .u32 s, .int .u32 g] 41)).alloc (.cells #[.int .u32 0, .int .u32 0, .int .u32 0, .int .u32 0, .int .u32 0, .int .u32 0, .int .i64 0, .int .i64 0, .int .i64 0, .int .u32 0, .int .u32 0] 57)) := ((Below.refl _ _).alloc (Nat.le_refl _) _).alloc (by simp) _
  have hR := (Row.new w 41 [.int .u32 s, .int .u32 g]).alloc (.cells #[.int .u32 0, .int .u32 0, .int .u32 0, .int .u32 0, .int .u32 0, .int .u32 0, .int .i64 0, .int .i64 0, .int .i64 0, .int .u32 0, .int .u32 0] 57)
  have hZ := Row.new (w.alloc (.cells #[.int .u32 s, .int .u32 g] 41)) 57 [.int .u32 0, .int .u32 0, .int .u32 0, .int .u32 0, .int .u32 0, .int .u32 0, .int .i64 0, .int .i64 0, .int .i64 0, .int .u32 0, .int .u32 0]
  change Row ((w.alloc (.cells #[.int .u32 s, .int .u32 g] 41)).alloc (.cells #[.int .u32 0, .int .u32 0, .int .u32 0, .int .u32 0, .int .u32 0, .int .u32 0, .int .i64 0, .int .i64 0, .int .i64 0, .int .u32 0, .int .u32 0] 57)) _ _ _ at hZ
  have hzz : (w.alloc (.cells #[.int .u32 s, .int .u32 g] 41)).heap.size = w.heap.size + 1 := by simp
  rw [hzz] at hZ
  change Row ((w.alloc (.cells #[.int .u32 s, .int .u32 g] 41)).alloc (.cells #[.int .u32 0, .int .u32 0, .int .u32 0, .int .u32 0, .int .u32 0, .int .u32 0, .int .i64 0, .int .i64 0, .int .i64 0, .int .u32 0, .int .u32 0] 57)) _ _ _ at hR
  have r0 := hR.cell 0
  have r1 := hR.cell 1
  dsimp only [List.getElem?_cons_zero, List.getElem?_cons_succ] at r0 r1
  have h1 := h.below hA
  have CF := Lib.hid (find_c bp B s g _ h1 hs)
  have HA := Lib.hid hA
  have HZ := Lib.hid hZ
  have H1 := Lib.hid h1
  clear h h1 hA hR hZ hzz
  have hlt : w.heap.size + 1 < ((w.alloc (.cells #[.int .u32 s, .int .u32 g] 41)).alloc (.cells #[.int .u32 0, .int .u32 0, .int .u32 0, .int .u32 0, .int .u32 0, .int .u32 0, .int .i64 0, .int .i64 0, .int .i64 0, .int .u32 0, .int .u32 0] 57)).heap.size := HZ.out.lt
  cases hf : fnd B.N s g with
  | none =>
    rw [hf, fndV_none] at CF
    clear hf
    go_enter Try.func18, Try.ntmps18
    go_wp2_with fail
    generalize (w.alloc (.cells #[.int .u32 s, .int .u32 g] 41)).alloc (.cells #[.int .u32 0, .int .u32 0, .int .u32 0, .int .u32 0, .int .u32 0, .int .u32 0, .int .i64 0, .int .i64 0, .int .i64 0, .int .u32 0, .int .u32 0] 57) = w1 at *
    obtain ⟨z, hz⟩ : ∃ z, w.heap.size + 1 = z := ⟨_, rfl⟩
    rw [hz] at HZ ⊢
    have HZE := Lib.hid hz
    clear hz
    refine CF.out.mono ?_
    rintro e w2 ⟨rfl, hb2⟩
    have HZ2 := Lib.hid (HZ.out.grown hb2)
    have HB2 : Hid (Below w.heap.size w w2) := Lib.hid (HA.out.trans (hb2.mono HA.out.size))
    obtain ⟨⟨z0, z1, z2, z3, z4, z5, z6, z7, z8, z9, z10⟩, f0, f1, f2, f3, f4, f5, f6, f7, f8, f9, f10⟩ := HZ2.out.at11
    have hzw : w.heap.size ≤ z := by rw [← HZE.out]; omega
    clear hb2 CF HZ HA
    go_wp2_with fail
    have hfin := HZ2.out.store11 (.int .u32 0) (.int .u32 0) (.int .u32 0) (.int .u32 0) (.int .u32 0) (.int .u32 0) (.int .i64 0) (.int .i64 0) (.int .i64 0) (.int .u32 0) (.int .u32 0)
    have hbw := below_store11 HB2.out hzw (.int .u32 0) (.int .u32 0) (.int .u32 0) (.int .u32 0) (.int .u32 0) (.int .u32 0) (.int .i64 0) (.int .i64 0) (.int .i64 0) (.int .u32 0) (.int .u32 0)
    (try simp only [Exit.inBlock, Exit.then]); refine bodyPost_ret (results_cell2_row rfl _ _ z 57 #[.int .u32 0, .int .u32 0, .int .u32 0, .int .u32 0, .int .u32 0, .int .u32 0, .int .i64 0, .int .i64 0, .int .i64 0, .int .u32 0, .int .u32 0] (0, 0) _ rfl hfin Try.underlying57 rfl (by kernel_rfl)) rfl ?_
    exact ⟨rfl, hbw⟩
  | some x =>
    have hx := (fnd_some hf).1
    rw [hf, fndV_some] at CF
    clear hf
    go_enter Try.func18, Try.ntmps18
    go_wp2_with fail
    generalize (w.alloc (.cells #[.int .u32 s, .int .u32 g] 41)).alloc (.cells #[.int .u32 0, .int .u32 0, .int .u32 0, .int .u32 0, .int .u32 0, .int .u32 0, .int .i64 0, .int .i64 0, .int .i64 0, .int .u32 0, .int .u32 0] 57) = w1 at *
    obtain ⟨z, hz⟩ : ∃ z, w.heap.size + 1 = z := ⟨_, rfl⟩
    rw [hz] at HZ ⊢
    have HZE := Lib.hid hz
    clear hz
    refine CF.out.mono ?_
    rintro e w2 ⟨rfl, hb2⟩
    have HZ2 := Lib.hid (HZ.out.grown hb2)
    have HB2 : Hid (Below w.heap.size w w2) := Lib.hid (HA.out.trans (hb2.mono HA.out.size))
    have hzw : w.heap.size ≤ z := by rw [← HZE.out]; omega
    obtain ⟨⟨z0, z1, z2, z3, z4, z5, z6, z7, z8, z9, z10⟩, f0, f1, f2, f3, f4, f5, f6, f7, f8, f9, f10⟩ := HZ2.out.at11
    obtain ⟨a0, a1, a2, a3, a4, a5, a6, a7, a8, a9, a10, _⟩ := Nd.at_ ((H1.out.below hb2).mem.node x hx)
    obtain ⟨xb, xrb, xr, xs⟩ := x
    obtain ⟨q0, q1, q2, q3, q4, q5, q6, q7, q8, q9, q10⟩ := xr
    simp only at a0 a1 a2 a3 a4 a5 a6 a7 a8 a9 a10 ⊢
    clear hb2 CF HZ HA hx
    go_wp2_with fail
    have hfin := HZ2.out.store11 (.int .u32 q0) (.int .u32 q1) (.int .u32 q2) (.int .u32 q3) (.int .u32 q4) (.int .u32 q5) (.int .i64 q6) (.int .i64 q7) (.int .i64 q8) (.int .u32 q9) (.int .u32 q10)
    have hbw := below_store11 HB2.out hzw (.int .u32 q0) (.int .u32 q1) (.int .u32 q2) (.int .u32 q3) (.int .u32 q4) (.int .u32 q5) (.int .i64 q6) (.int .i64 q7) (.int .i64 q8) (.int .u32 q9) (.int .u32 q10)
    (try simp only [Exit.inBlock, Exit.then]); refine bodyPost_ret (results_cell2_row rfl _ _ z 57 #[.int .u32 q0, .int .u32 q1, .int .u32 q2, .int .u32 q3, .int .u32 q4, .int .u32 q5, .int .i64 q6, .int .i64 q7, .int .i64 q8, .int .u32 q9, .int .u32 q10] (0, 0) _ rfl hfin Try.underlying57 rfl (by kernel_rfl)) rfl ?_
    exact ⟨rfl, hbw⟩
end Go.Proofs.Ytgndpodeedjohaa
