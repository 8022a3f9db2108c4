/-
  Wait refused; Add without a wake.
-/
import Derived.Test.YtkdiibgjkipdnaaLkF
namespace Go.Proofs.Ytkdiibgjkipdnaa
open Go.RowKit Go.Maps
set_option linter.unusedSimpArgs false
set_option linter.unusedVariables false

set_option maxHeartbeats 4000000 in
set_option maxRecDepth 100000 in
theorem waitNo_c (lp mp bp mn : Nat) (f : Int → Int → Value) (B : Bk) (s g gs gg : Int) (w : World) (h : LkAt w lp mp bp mn f B) (hser : ∀ x ∈ B.N, 0 ≤ x.ser) (hm : mayV B.N gs gg = 163) :
    Calls Try.prog 15 #[.pointer (some ⟨lp, 0, none⟩), .agg #[.int .u32 gs, .int .u32 gg], .agg #[.int .u32 s, .int .u32 g]] w fun e w' => e = .returned (.tuple #[didV 0 (.slice none 0 0), .int .i64 163]) ∧ Below w.heap.size w w' := by
  have HK := Lib.hid (Asks.made w gs gg s g)
  have HL := Lib.hid (h.below HK.out.below)
  have CM := Lib.hid (may_c lp mp bp mn f B gs gg _ HL.out hser)
  rw [hm] at CM
  have r0 := HK.out.who.cell 0
  have r1 := HK.out.who.cell 1
  dsimp only [List.getElem?_cons_zero, List.getElem?_cons_succ] at r0 r1
  clear h hser hm
  go_enter Try.func15, Try.ntmps15
  go_wp2_with fail
  change Calls _ _ _ (wWait w gs gg s g) _
  refine CM.out.mono ?_
  rintro e w2 ⟨rfl, hb2⟩
  have HK2 := Lib.hid (HK.out.next hb2)
  clear hb2 CM HK HL r0 r1
  obtain ⟨⟨z0, z1, z2, z3, z4, z5⟩, f0, f1, f2, f3, f4, f5⟩ := HK2.out.did.at6
  go_wp2_with fail
  have hfin := HK2.out.did.store6 (.int .i64 0) (.int .i64 0) (.int .u32 0) (.int .u32 0) (.bool false) (.slice none 0 0)
  (try simp only [Exit.inBlock, Exit.then]); refine bodyPost_ret (results_cell2_row rfl _ _ (w.heap.size + 1 + 1) 46 #[.int .i64 0, .int .i64 0, .int .u32 0, .int .u32 0, .bool false, .slice none 0 0] (0, 0) _ rfl hfin Try.underlying46 rfl (by kernel_rfl)) rfl ?_
  refine ⟨rfl, ?_⟩
  have hz : w.heap.size ≤ w.heap.size + 1 + 1 := by omega
  exact (((((HK2.out.below.setCell (p := ⟨_, 0, none⟩) hz _).setCell (p := ⟨_, 1, none⟩) hz _).setCell (p := ⟨_, 2, none⟩) hz _).setCell (p := ⟨_, 3, none⟩) hz _).setCell (p := ⟨_, 4, none⟩) hz _).setCell (p := ⟨_, 5, none⟩) hz _
/-- what Add lays down first -/
abbrev wAdd (w : World) (s g : Int) : World := (w.alloc (.cells #[.int .u32 s, .int .u32 g] 35)).alloc zDid
structure Adds (w w1 : World) (s g : Int) : Prop where
  below : Below w.heap.size w w1
  of : Row w1 w.heap.size 35 [.int .u32 s, .int .u32 g]
  did : Row w1 (w.heap.size + 1) 46 didZ
theorem Adds.made (w : World) (s g : Int) : Adds w (wAdd w s g) s g := by
  have hA : Below w.heap.size w (wAdd w s g) := ((Below.refl _ _).alloc (Nat.le_refl _) _).alloc (by simp) _
  have hR := (Row.new w 35 [.int .u32 s, .int .u32 g]).alloc zDid
  have hZ := Row.new (w.alloc (.cells #[.int .u32 s, .int .u32 g] 35)) 46 didZ
  rw [show (w.alloc (.cells #[.int .u32 s, .int .u32 g] 35)).heap.size = w.heap.size + 1 by simp] at hZ
  exact ⟨hA, hR, hZ⟩
theorem Adds.next {w w1 w2 : World} {s g : Int} (h : Adds w w1 s g) (hb : Below w1.heap.size w1 w2) : Adds w w2 s g :=
  ⟨h.below.trans (hb.mono h.below.size), h.of.below hb h.of.lt, h.did.below hb h.did.lt⟩
def tooFar (n c : Int) : Prop := n < -c ∨ 2147483647 - c < n
set_option maxHeartbeats 4000000 in
set_option maxRecDepth 100000 in
theorem addFar_c (lp mp bp mn : Nat) (f : Int → Int → Value) (B : Bk) (s g : Int) (gb : Nat) (c n : Int) (w : World) (h : LkAt w lp mp bp mn f B) (hs : (Lit.int .u32 s).wf = true) (hg : (Lit.int .u32 g).wf = true)
    (hf : f s g = groupV gb) (hr : Row w gb 85 [.int .i64 c]) (hz2 : sameH s g 0 0 = false) (hc : 0 ≤ c ∧ c ≤ 2147483647) (hfar : tooFar n c) :
    Calls Try.prog 16 #[.pointer (some ⟨lp, 0, none⟩), .agg #[.int .u32 s, .int .u32 g], .int .i64 n] w fun e w' => e = .returned (.tuple #[didV 18 (.slice none 0 0), .int .i64 0]) ∧ Below w.heap.size w w' := by
  have HK := Lib.hid (Adds.made w s g)
  have HL := Lib.hid (h.below HK.out.below)
  have HG := Lib.hid (hr.below HK.out.below hr.lt)
  have e0 := fun w => eql_locks_nil ⟨lp, 0, none⟩ w
  have e1 := fun w => run_eql_handle s g 0 0 w
  rw [hz2] at e1
  have r0 := HK.out.of.cell 0
  have r1 := HK.out.of.cell 1
  have c1 := HL.out.obj.cell 1
  have n0 := HG.out.cell 0
  dsimp only [List.getElem?_cons_zero, List.getElem?_cons_succ] at r0 r1 c1 n0
  have hl := HL.out.look hs hg
  rw [hf] at hl
  unfold groupV at hl
  have HHL := Lib.hid hl
  have w1e : IntKind.i64.wrap (-c) = -c := by simp [IntKind.wrap, IntKind.bits, IntKind.signed, Int.bmod]; omega
  have w2e : IntKind.i64.wrap (2147483647 - c) = 2147483647 - c := by simp [IntKind.wrap, IntKind.bits, IntKind.signed, Int.bmod]; omega
  clear h hr hz2 hf hs hg hl
  go_enter Try.func16, Try.ntmps16
  go_upto_region 5 with fail
  change Code.wp _ _ _ _ (wAdd w s g)
  generalize wAdd w s g = w1 at *
  have hl := HHL.out
  have hl0 := hl 0
  rw [World.drewN_zero] at hl0
  go_quiet (fail)
  have HK3 := Lib.hid (HK.out.next (below_drewN (Below.refl _ _) nq))
  have n0 : (w1.drewN nq).cell? ⟨gb, 0, none⟩ = _ := n0
  clear hl hl0 HHL HK HL HG r0 r1 c1
  generalize w1.drewN nq = w3 at *
  obtain ⟨⟨z0, z1, z2, z3, z4, z5⟩, f0, f1, f2, f3, f4, f5⟩ := HK3.out.did.at6
  have hfin := HK3.out.did.store6 (.int .i64 18) (.int .i64 0) (.int .u32 0) (.int .u32 0) (.bool false) (.slice none 0 0)
  have HFIN := Lib.hid hfin
  clear hfin
  have hz : w.heap.size ≤ w.heap.size + 1 := by omega
  have HEND : Hid (Below w.heap.size w ((((((w3.setCell ⟨w.heap.size + 1, 0, none⟩ (.int .i64 18)).setCell ⟨w.heap.size + 1, 1, none⟩ (.int .i64 0)).setCell ⟨w.heap.size + 1, 2, none⟩ (.int .u32 0)).setCell ⟨w.heap.size + 1, 3, none⟩ (.int .u32 0)).setCell ⟨w.heap.size + 1, 4, none⟩ (.bool false)).setCell ⟨w.heap.size + 1, 5, none⟩ (.slice none 0 0))) :=
    Lib.hid ((((((HK3.out.below.setCell (p := ⟨_, 0, none⟩) hz _).setCell (p := ⟨_, 1, none⟩) hz _).setCell (p := ⟨_, 2, none⟩) hz _).setCell (p := ⟨_, 3, none⟩) hz _).setCell (p := ⟨_, 4, none⟩) hz _).setCell (p := ⟨_, 5, none⟩) hz _)
  by_cases h1 : n < -c
  · have d1 : decide (n < -c) = true := decide_eq_true h1
    go_wp2_with fail
    (try simp only [Exit.inBlock, Exit.then]); refine bodyPost_ret (results_cell2_row rfl _ _ (w.heap.size + 1) 46 #[.int .i64 18, .int .i64 0, .int .u32 0, .int .u32 0, .bool false, .slice none 0 0] (0, 0) _ rfl HFIN.out Try.underlying46 rfl (by kernel_rfl)) rfl ?_
    exact ⟨rfl, HEND.out⟩
  · have d1 : decide (n < -c) = false := decide_eq_false h1
    have h2 : 2147483647 - c < n := by rcases hfar with e | e <;> omega
    have d2 : decide (2147483647 - c < n) = true := decide_eq_true h2
    go_wp2_with fail
    (try simp only [Exit.inBlock, Exit.then]); refine bodyPost_ret (results_cell2_row rfl _ _ (w.heap.size + 1) 46 #[.int .i64 18, .int .i64 0, .int .u32 0, .int .u32 0, .bool false, .slice none 0 0] (0, 0) _ rfl HFIN.out Try.underlying46 rfl (by kernel_rfl)) rfl ?_
    exact ⟨rfl, HEND.out⟩
end Go.Proofs.Ytkdiibgjkipdnaa
