/-
  Add without a wake.
-/
import Derived.Test.YtkdiibgjkipdnaaLkG
namespace Go.Proofs.Ytkdiibgjkipdnaa
open Go.RowKit Go.Maps
set_option linter.unusedSimpArgs false
set_option linter.unusedVariables false

theorem LkAt.map_ne {w : World} {lp mp bp mn b e : Nat} {f : Int → Int → Value} {B : Bk} {vs : List Value} (h : LkAt w lp mp bp mn f B) (hr : Row w b e vs) : mp ≠ b := fun q => by
  obtain ⟨D, ⟨es, clock, k1, _⟩, _⟩ := h.map.ex
  unfold Row at hr
  rw [← q, k1] at hr
  cases hr
/-- one block of a type of its own has turned -/
theorem LkAt.but {w w' : World} {lp mp bp mn b e : Nat} {f : Int → Int → Value} {B : Bk} {vs : List Value} (h : LkAt w lp mp bp mn f B) (hr : Row w b e vs) (he : e ≠ 74 ∧ e ≠ 92 ∧ e ≠ 33 ∧ e ≠ 98 ∧ e ≠ 94) (he2 : e ≠ 77) (hb : But (fun k => k = b) w w') : LkAt w' lp mp bp mn f B := by
  have h1 := h.book.mem.not_own hr he
  exact ⟨hb.row h.obj (fun q => (h.obj.ne hr (fun e2 => he2 e2.symm)) q), h.map.move (hb.block _ h.map.lt (h.map_ne hr)), h.book.but hb (fun k hk q => h1 (q ▸ hk)), h.n1, h.n2⟩
set_option maxHeartbeats 4000000 in
set_option maxRecDepth 100000 in
theorem addOn_c (lp mp bp mn : Nat) (f : Int → Int → Value) (B : Bk) (s g : Int) (gb : Nat) (c n : Int) (w : World) (h : LkAt w lp mp bp mn f B) (hs : (Lit.int .u32 s).wf = true) (hg : (Lit.int .u32 g).wf = true)
    (hf : f s g = groupV gb) (hr : Row w gb 85 [.int .i64 c]) (hz2 : sameH s g 0 0 = false) (hc : 0 ≤ c ∧ c ≤ 2147483647) (hfar : ¬ tooFar n c) (hne : c + n ≠ 0) :
    Calls Try.prog 16 #[.pointer (some ⟨lp, 0, none⟩), .agg #[.int .u32 s, .int .u32 g], .int .i64 n] w fun e w' => e = .returned (.tuple #[didV 0 (.slice none 0 0), .int .i64 0]) ∧ Row w' gb 85 [.int .i64 (c + n)] ∧ But (fun k => k = gb) w w' := by
  have HK := Lib.hid (Adds.made w s g)
  have HL := Lib.hid (h.below HK.out.below)
  have HG := Lib.hid (hr.below HK.out.below hr.lt)
  have e0 := fun w => eql_locks_nil ⟨lp, 0, none⟩ w
  have e1 := fun w => run_eql_handle s g 0 0 w
  rw [hz2] at e1
  have r0 := HK.out.of.cell 0
  have r1 := HK.out.of.cell 1
  have c1 := HL.out.obj.cell 1
  have n0 := HG.out.cell 0
  dsimp only [List.getElem?_cons_zero, List.getElem?_cons_succ] at r0 r1 c1 n0
  have hl := HL.out.look hs hg
  rw [hf] at hl
  unfold groupV at hl
  have HHL := Lib.hid hl
  have hb1 : ¬ n < -c := fun e => hfar (.inl e)
  have hb2 : ¬ 2147483647 - c < n := fun e => hfar (.inr e)
  have w1e : IntKind.i64.wrap (-c) = -c := by simp [IntKind.wrap, IntKind.bits, IntKind.signed, Int.bmod]; omega
  have w2e : IntKind.i64.wrap (2147483647 - c) = 2147483647 - c := by simp [IntKind.wrap, IntKind.bits, IntKind.signed, Int.bmod]; omega
  have w3e : IntKind.i64.wrap (c + n) = c + n := by simp [IntKind.wrap, IntKind.bits, IntKind.signed, Int.bmod]; omega
  have d1 : decide (n < -c) = false := decide_eq_false hb1
  have d2 : decide (2147483647 - c < n) = false := decide_eq_false hb2
  have d3 : (c + n == 0) = false := beq_eq_false_iff_ne.2 hne
  have d4 : decide (c + n = 0) = false := decide_eq_false hne
  have hgw := hr.lt
  clear h hr hz2 hf hs hg hl hne hfar
  go_enter Try.func16, Try.ntmps16
  go_upto_region 5 with fail
  change Code.wp _ _ _ _ (wAdd w s g)
  generalize wAdd w s g = w1 at *
  have hl := HHL.out
  have hl0 := hl 0
  rw [World.drewN_zero] at hl0
  go_quiet (fail)
  have HK3 := Lib.hid (HK.out.next (below_drewN (Below.refl _ _) nq))
  have HG3 := Lib.hid (HG.out.drewN nq)
  clear hl hl0 HHL HK HL HG r0 r1 c1 n0
  generalize w1.drewN nq = w3 at *
  have n0 := HG3.out.cell 0
  have nf := HG3.out.frozen 0
  dsimp only [List.getElem?_cons_zero, List.getElem?_cons_succ] at n0
  go_upto_region 11 with fail
  have hB3 : But (fun k => k = gb) w (w3.setCell ⟨gb, 0, none⟩ (.int .i64 (c + n))) := (But.of_below HK3.out.below (fun k => k = gb)).set ⟨gb, 0, none⟩ _ rfl
  have hG4 := HG3.out.set 0 (.int .i64 (c + n))
  have hne2 : w.heap.size + 1 ≠ gb := by omega
  have hD4 := HK3.out.did.far (p := ⟨gb, 0, none⟩) hne2 (.int .i64 (c + n))
  generalize w3.setCell ⟨gb, 0, none⟩ (.int .i64 (c + n)) = w4 at *
  simp only [List.set_cons_zero] at hG4
  have hA5 : Below w4.heap.size w4 (w4.alloc zDid) := (Below.refl _ _).alloc (Nat.le_refl _) _
  have HB5 : Hid (But (fun k => k = gb) w (w4.alloc zDid)) := Lib.hid (hB3.alloc _)
  have HG5 := Lib.hid (hG4.alloc zDid)
  have HD5 := Lib.hid (hD4.alloc zDid)
  have HE5 := Lib.hid (Row.new w4 46 didZ)
  change Hid (Row (w4.alloc zDid) _ _ _) at HE5
  clear hB3 hG4 hD4 hA5 n0 nf HK3 HG3
  go_upto_block 0 with fail
  change Code.wp _ _ _ _ (w4.alloc zDid)
  generalize w4.alloc zDid = w5 at *
  generalize w4.heap.size = db at *
  have n0 := HG5.out.cell 0
  dsimp only [List.getElem?_cons_zero] at n0
  obtain ⟨⟨z0, z1, z2, z3, z4, z5⟩, f0, f1, f2, f3, f4, f5⟩ := HD5.out.at6
  obtain ⟨⟨y0, y1, y2, y3, y4, y5⟩, _⟩ := HE5.out.at6
  go_wp2_with fail
  go_loopw [11, 12] (fun _ _ wr => wr = w5) (fun _ _ _ => 0)
  case atStart => rfl
  case round =>
    subst hrel
    go_wp2_with fail
    have hfin := HD5.out.store6 (.int .i64 0) (.int .i64 0) (.int .u32 0) (.int .u32 0) (.bool false) (.slice none 0 0)
    (try simp only [Exit.inBlock, Exit.then]); refine bodyPost_ret (results_cell2_row rfl _ _ (w.heap.size + 1) 46 #[.int .i64 0, .int .i64 0, .int .u32 0, .int .u32 0, .bool false, .slice none 0 0] (0, 0) _ rfl hfin Try.underlying46 rfl (by kernel_rfl)) rfl ?_
    have hz : w.heap.size ≤ w.heap.size + 1 := by omega
    refine ⟨rfl, ?_, ?_⟩
    · exact (((((HG5.out.far (p := ⟨w.heap.size + 1, 0, none⟩) hne2.symm _).far (p := ⟨w.heap.size + 1, 1, none⟩) hne2.symm _).far (p := ⟨w.heap.size + 1, 2, none⟩) hne2.symm _).far (p := ⟨w.heap.size + 1, 3, none⟩) hne2.symm _).far (p := ⟨w.heap.size + 1, 4, none⟩) hne2.symm _).far (p := ⟨w.heap.size + 1, 5, none⟩) hne2.symm _
    · exact (((((HB5.out.setNew ⟨_, 0, none⟩ _ hz).setNew ⟨_, 1, none⟩ _ hz).setNew ⟨_, 2, none⟩ _ hz).setNew ⟨_, 3, none⟩ _ hz).setNew ⟨_, 4, none⟩ _ hz).setNew ⟨_, 5, none⟩ _ hz
end Go.Proofs.Ytkdiibgjkipdnaa
