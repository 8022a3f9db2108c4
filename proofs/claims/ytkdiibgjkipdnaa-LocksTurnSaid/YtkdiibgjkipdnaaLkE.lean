/-
  Counter, Holder, Wait, Lock of locks.
-/
import Derived.Test.YtkdiibgjkipdnaaLkD
namespace Go.Proofs.Ytkdiibgjkipdnaa
open Go.RowKit Go.Maps
set_option linter.unusedSimpArgs false
set_option linter.unusedVariables false

@[go_sem] theorem as_mutex (b : Nat) (w : World) : (Instr.typeAssert (.iface 80 (.pointer (some ⟨b, 0, none⟩))) 79 80 true).run Try.prog w = .ok (.tuple #[.pointer (some ⟨b, 0, none⟩), .bool true]) w := by kernel_rfl
@[go_sem] theorem as_group (b : Nat) (w : World) : (Instr.typeAssert (.iface 83 (.pointer (some ⟨b, 0, none⟩))) 79 83 true).run Try.prog w = .ok (.tuple #[.pointer (some ⟨b, 0, none⟩), .bool true]) w := by kernel_rfl
/-- what a look-up of locks answers -/
theorem LkAt.look {w : World} {lp mp bp mn : Nat} {f : Int → Int → Value} {B : Bk} (h : LkAt w lp mp bp mn f B) {s g : Int} (hs : (Lit.int .u32 s).wf = true) (hg : (Lit.int .u32 g).wf = true) (d : Nat) :
    (Instr.lookup 75 (.map (some mp)) (.agg #[.int .u32 s, .int .u32 g]) false).run Try.prog (w.drewN d) = .ok (f s g) (w.drewN d) :=
  (h.map.move (w' := w.drewN d) rfl).find Try.underlying75 zeroThing hs hg
set_option maxHeartbeats 2000000 in
set_option maxRecDepth 100000 in
theorem counter_c (lp mp bp mn : Nat) (f : Int → Int → Value) (B : Bk) (s g : Int) (gb : Nat) (n : Int) (w : World) (h : LkAt w lp mp bp mn f B) (hs : (Lit.int .u32 s).wf = true) (hg : (Lit.int .u32 g).wf = true) (hf : f s g = groupV gb) (hr : Row w gb 85 [.int .i64 n]) :
    Calls Try.prog 17 #[.pointer (some ⟨lp, 0, none⟩), .agg #[.int .u32 s, .int .u32 g]] w fun e w' => e = .returned (.tuple #[.int .i64 n, .int .i64 0]) ∧ Below w.heap.size w w' := by
  have hA : Below w.heap.size w (w.alloc (.cells #[.int .u32 s, .int .u32 g] 35)) := (Below.refl _ _).alloc (Nat.le_refl _) _
  have hR := Row.new w 35 [.int .u32 s, .int .u32 g]
  change Row (w.alloc (.cells #[.int .u32 s, .int .u32 g] 35)) _ _ _ at hR
  have HA := Lib.hid hA
  have HL := Lib.hid (h.below hA)
  have HG := Lib.hid (hr.below hA hr.lt)
  have r0 := hR.cell 0
  have r1 := hR.cell 1
  have c1 := HL.out.obj.cell 1
  have n0 := HG.out.cell 0
  dsimp only [List.getElem?_cons_zero, List.getElem?_cons_succ] at r0 r1 c1 n0
  have e0 := fun w => eql_locks_nil ⟨lp, 0, none⟩ w
  have hl := HL.out.look hs hg
  rw [hf] at hl
  unfold groupV at hl
  have HHL := Lib.hid hl
  clear h hA hR hr hs hg hf hl
  go_enter Try.func17, Try.ntmps17
  go_upto_region 3 with fail
  generalize w.alloc (.cells #[.int .u32 s, .int .u32 g] 35) = w1 at *
  have hl := HHL.out
  have hl0 := hl 0
  rw [World.drewN_zero] at hl0
  go_quiet (fail)
  have n0 : (w1.drewN nq).cell? ⟨gb, 0, none⟩ = _ := n0
  have HB := Lib.hid (below_drewN HA.out nq)
  clear hl hl0 HHL HA HL HG
  generalize w1.drewN nq = w2 at *
  go_wp2
  go_ret2
  exact ⟨rfl, HB.out⟩
set_option maxHeartbeats 2000000 in
set_option maxRecDepth 100000 in
theorem holder_c (lp mp bp mn : Nat) (f : Int → Int → Value) (B : Bk) (s g : Int) (gb : Nat) (a b : Int) (w : World) (h : LkAt w lp mp bp mn f B) (hs : (Lit.int .u32 s).wf = true) (hg : (Lit.int .u32 g).wf = true) (hf : f s g = mutexV gb) (hr : Row w gb 82 [.int .u32 a, .int .u32 b]) :
    Calls Try.prog 13 #[.pointer (some ⟨lp, 0, none⟩), .agg #[.int .u32 s, .int .u32 g]] w fun e w' => e = .returned (.tuple #[.agg #[.int .u32 a, .int .u32 b], .int .i64 0]) ∧ Below w.heap.size w w' := by
  have hA : Below w.heap.size w ((w.alloc (.cells #[.int .u32 s, .int .u32 g] 35)).alloc (.cells #[.int .u32 0, .int .u32 0] 35)) := ((Below.refl _ _).alloc (Nat.le_refl _) _).alloc (by simp) _
  have hR := (Row.new w 35 [.int .u32 s, .int .u32 g]).alloc (.cells #[.int .u32 0, .int .u32 0] 35)
  have hZ := Row.new (w.alloc (.cells #[.int .u32 s, .int .u32 g] 35)) 35 [.int .u32 0, .int .u32 0]
  rw [show (w.alloc (.cells #[.int .u32 s, .int .u32 g] 35)).heap.size = w.heap.size + 1 by simp] at hZ
  change Row ((w.alloc (.cells #[.int .u32 s, .int .u32 g] 35)).alloc (.cells #[.int .u32 0, .int .u32 0] 35)) _ _ _ at hR hZ
  have HA := Lib.hid hA
  have HL := Lib.hid (h.below hA)
  have HG := Lib.hid (hr.below hA hr.lt)
  have HZ := Lib.hid hZ
  have r0 := hR.cell 0
  have r1 := hR.cell 1
  have c1 := HL.out.obj.cell 1
  have n0 := HG.out.cell 0
  have n1 := HG.out.cell 1
  dsimp only [List.getElem?_cons_zero, List.getElem?_cons_succ] at r0 r1 c1 n0 n1
  have e0 := fun w => eql_locks_nil ⟨lp, 0, none⟩ w
  have hl := HL.out.look hs hg
  rw [hf] at hl
  unfold mutexV at hl
  have HHL := Lib.hid hl
  clear h hA hR hr hs hg hf hl hZ
  go_enter Try.func13, Try.ntmps13
  go_upto_region 3 with fail
  generalize (w.alloc (.cells #[.int .u32 s, .int .u32 g] 35)).alloc (.cells #[.int .u32 0, .int .u32 0] 35) = w1 at *
  have hl := HHL.out
  have hl0 := hl 0
  rw [World.drewN_zero] at hl0
  go_quiet (fail)
  have n0 : (w1.drewN nq).cell? ⟨gb, 0, none⟩ = _ := n0
  have n1 : (w1.drewN nq).cell? ⟨gb, 1, none⟩ = _ := n1
  have HB := Lib.hid (below_drewN HA.out nq)
  have HZ2 := Lib.hid (HZ.out.drewN nq)
  clear hl hl0 HHL HA HL HG HZ
  generalize w1.drewN nq = w2 at *
  have z0 := HZ2.out.cell 0
  have z1 := HZ2.out.cell 1
  have f0 := HZ2.out.frozen 0
  have f1 := HZ2.out.frozen 1
  dsimp only [List.getElem?_cons_zero, List.getElem?_cons_succ] at z0 z1
  go_wp2
  have hfin : Row ((w2.setCell ⟨w.heap.size + 1, 0, none⟩ (.int .u32 a)).setCell ⟨w.heap.size + 1, 1, none⟩ (.int .u32 b)) (w.heap.size + 1) 35 [.int .u32 a, .int .u32 b] := (HZ2.out.set 0 _).set 1 _
  (try simp only [Exit.inBlock, Exit.then]); refine bodyPost_ret (results_cell2_row rfl _ _ (w.heap.size + 1) 35 #[.int .u32 a, .int .u32 b] (0, 0) _ rfl hfin Try.underlying35 rfl (by kernel_rfl)) rfl ?_
  exact ⟨rfl, (HB.out.setCell (p := ⟨w.heap.size + 1, 0, none⟩) (Nat.le_succ _) _).setCell (p := ⟨w.heap.size + 1, 1, none⟩) (Nat.le_succ _) _⟩
end Go.Proofs.Ytkdiibgjkipdnaa
