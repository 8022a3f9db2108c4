/-
  First of a row.
-/
import Derived.Test.YtkdiibgjkipdnaaWqE
namespace Go.Proofs.Ytkdiibgjkipdnaa
open Go.RowKit Go.Maps
set_option linter.unusedSimpArgs false

def firstV (o : Option Nd) : Value := match o with
  | some x => .tuple #[x.rc.agg, .bool true]
  | none => .tuple #[zeroRc.agg, .bool false]
theorem head_row {N : List Nd} {k : Key} {x : Nd} (h : (inRow k N).head? = some x) : x ∈ N ∧ x.rc.key = k := by
  have := List.mem_of_mem_head? h
  unfold inRow at this
  rw [List.mem_filter] at this
  exact ⟨this.1, of_decide_eq_true this.2⟩
set_option maxHeartbeats 2000000 in
set_option maxRecDepth 100000 in
theorem first_c (bp : Nat) (B : Bk) (k : Key) (w : World) (h : BookAt w bp B) (hk : k.Ok) :
    Calls Try.prog 24 #[.pointer (some ⟨bp, 0, none⟩), .agg #[.int .u32 k.s, .int .u32 k.g, .int .i64 k.d]] w fun e w' =>
      e = .returned (firstV (inRow k B.N).head?) ∧ Below w.heap.size w w' := by
  have hA : Below w.heap.size w ((w.alloc (.cells #[.int .u32 k.s, .int .u32 k.g, .int .i64 k.d] 60)).alloc (.cells #[.int .u32 0, .int .u32 0, .int .u32 0, .int .u32 0, .int .u32 0, .int .u32 0, .int .i64 0, .int .i64 0, .int .i64 0, .int .u32 0, .int .u32 0] 96)) := ((Below.refl _ _).alloc (Nat.le_refl _) _).alloc (by simp) _
  have hR := (Row.new w 60 [.int .u32 k.s, .int .u32 k.g, .int .i64 k.d]).alloc (.cells #[.int .u32 0, .int .u32 0, .int .u32 0, .int .u32 0, .int .u32 0, .int .u32 0, .int .i64 0, .int .i64 0, .int .i64 0, .int .u32 0, .int .u32 0] 96)
  have hZ := Row.new (w.alloc (.cells #[.int .u32 k.s, .int .u32 k.g, .int .i64 k.d] 60)) 96 [.int .u32 0, .int .u32 0, .int .u32 0, .int .u32 0, .int .u32 0, .int .u32 0, .int .i64 0, .int .i64 0, .int .i64 0, .int .u32 0, .int .u32 0]
  change Row ((w.alloc (.cells #[.int .u32 k.s, .int .u32 k.g, .int .i64 k.d] 60)).alloc (.cells #[.int .u32 0, .int .u32 0, .int .u32 0, .int .u32 0, .int .u32 0, .int .u32 0, .int .i64 0, .int .i64 0, .int .i64 0, .int .u32 0, .int .u32 0] 96)) _ _ _ at hZ
  have hzz : (w.alloc (.cells #[.int .u32 k.s, .int .u32 k.g, .int .i64 k.d] 60)).heap.size = w.heap.size + 1 := by simp
  rw [hzz] at hZ
  change Row ((w.alloc (.cells #[.int .u32 k.s, .int .u32 k.g, .int .i64 k.d] 60)).alloc (.cells #[.int .u32 0, .int .u32 0, .int .u32 0, .int .u32 0, .int .u32 0, .int .u32 0, .int .i64 0, .int .i64 0, .int .i64 0, .int .u32 0, .int .u32 0] 96)) _ _ _ at hR
  have r0 := hR.cell 0
  have r1 := hR.cell 1
  have r2 := hR.cell 2
  dsimp only [List.getElem?_cons_zero, List.getElem?_cons_succ] at r0 r1 r2
  have h1 := h.below hA
  have HA := Lib.hid hA
  have HZ := Lib.hid hZ
  have H1 := Lib.hid h1
  obtain ⟨c0, _⟩ := h1.fields
  have HL : Hid (∀ d, (Instr.lookup 70 (.map (some B.mp)) (.agg #[.int .u32 k.s, .int .u32 k.g, .int .i64 k.d]) false).run Try.prog (((w.alloc (.cells #[.int .u32 k.s, .int .u32 k.g, .int .i64 k.d] 60)).alloc (.cells #[.int .u32 0, .int .u32 0, .int .u32 0, .int .u32 0, .int .u32 0, .int .u32 0, .int .i64 0, .int .i64 0, .int .i64 0, .int .u32 0, .int .u32 0] 96)).drewN d) = .ok (pt (rowOf B.N k)) (((w.alloc (.cells #[.int .u32 k.s, .int .u32 k.g, .int .i64 k.d] 60)).alloc (.cells #[.int .u32 0, .int .u32 0, .int .u32 0, .int .u32 0, .int .u32 0, .int .u32 0, .int .i64 0, .int .i64 0, .int .i64 0, .int .u32 0, .int .u32 0] 96)).drewN d)) :=
    Lib.hid fun d => ((h1.below (below_drewN (Below.refl _ _) d)).mem.map).find hk
  clear h h1 hA hR hZ hzz
  cases hf : (inRow k B.N).head? with
  | none =>
    have hro : rowOf B.N k = none := by unfold rowOf; rw [hf]; rfl
    rw [hro] at HL
    clear hf hro
    go_enter Try.func24, Try.ntmps24
    go_wp2_with fail
    generalize (w.alloc (.cells #[.int .u32 k.s, .int .u32 k.g, .int .i64 k.d] 60)).alloc (.cells #[.int .u32 0, .int .u32 0, .int .u32 0, .int .u32 0, .int .u32 0, .int .u32 0, .int .i64 0, .int .i64 0, .int .i64 0, .int .u32 0, .int .u32 0] 96) = w1 at *
    obtain ⟨z, hz⟩ : ∃ z, w.heap.size + 1 = z := ⟨_, rfl⟩
    rw [hz] at HZ ⊢
    have hzw : w.heap.size ≤ z := by omega
    obtain ⟨⟨z0, z1, z2, z3, z4, z5, z6, z7, z8, z9, z10⟩, f0, f1, f2, f3, f4, f5, f6, f7, f8, f9, f10⟩ := HZ.out.at11
    have hl := HL.out
    simp only [pt] at hl
    have hl0 := hl 0
    rw [World.drewN_zero] at hl0
    clear hz HL
    go_quiet (fail)
    have HZ2 := Lib.hid (HZ.out.drewN nq)
    have HB2 := Lib.hid (below_drewN HA.out nq)
    clear hl hl0 HZ HA
    go_wp2_with fail
    have hfin := HZ2.out.store11 (.int .u32 0) (.int .u32 0) (.int .u32 0) (.int .u32 0) (.int .u32 0) (.int .u32 0) (.int .i64 0) (.int .i64 0) (.int .i64 0) (.int .u32 0) (.int .u32 0)
    have hbw := below_store11 HB2.out hzw (.int .u32 0) (.int .u32 0) (.int .u32 0) (.int .u32 0) (.int .u32 0) (.int .u32 0) (.int .i64 0) (.int .i64 0) (.int .i64 0) (.int .u32 0) (.int .u32 0)
    (try simp only [Exit.inBlock, Exit.then]); refine bodyPost_ret (results_cell2_row rfl _ _ z 96 #[.int .u32 0, .int .u32 0, .int .u32 0, .int .u32 0, .int .u32 0, .int .u32 0, .int .i64 0, .int .i64 0, .int .i64 0, .int .u32 0, .int .u32 0] (0, 0) _ rfl hfin Try.underlying96 rfl (by kernel_rfl)) rfl ?_
    exact ⟨rfl, hbw⟩
  | some x =>
    obtain ⟨hx, hxk⟩ := head_row hf
    have hro : rowOf B.N k = some x.rb := by unfold rowOf; rw [hf]; rfl
    rw [hro] at HL
    obtain ⟨a0, a1, a2, a3, a4, a5, a6, a7, a8, a9, a10, _⟩ := Nd.at_ (H1.out.mem.node x hx)
    have b0 := (H1.out.mem.row x hx).cell 0
    rw [hxk, hf] at b0
    obtain ⟨xb, xrb, xr, xs⟩ := x
    obtain ⟨q0, q1, q2, q3, q4, q5, q6, q7, q8, q9, q10⟩ := xr
    simp only [pt, Option.map_some, List.getElem?_cons_zero] at a0 a1 a2 a3 a4 a5 a6 a7 a8 a9 a10 b0 ⊢
    clear hx hxk hf hro
    go_enter Try.func24, Try.ntmps24
    go_wp2_with fail
    generalize (w.alloc (.cells #[.int .u32 k.s, .int .u32 k.g, .int .i64 k.d] 60)).alloc (.cells #[.int .u32 0, .int .u32 0, .int .u32 0, .int .u32 0, .int .u32 0, .int .u32 0, .int .i64 0, .int .i64 0, .int .i64 0, .int .u32 0, .int .u32 0] 96) = w1 at *
    obtain ⟨z, hz⟩ : ∃ z, w.heap.size + 1 = z := ⟨_, rfl⟩
    rw [hz] at HZ ⊢
    have hzw : w.heap.size ≤ z := by omega
    obtain ⟨⟨z0, z1, z2, z3, z4, z5, z6, z7, z8, z9, z10⟩, f0, f1, f2, f3, f4, f5, f6, f7, f8, f9, f10⟩ := HZ.out.at11
    have hl := HL.out
    simp only [pt] at hl
    have hl0 := hl 0
    rw [World.drewN_zero] at hl0
    clear hz HL
    go_quiet (fail)
    go_wp2_with fail
    have HZ2 := Lib.hid (HZ.out.drewN nq)
    have HB2 := Lib.hid (below_drewN HA.out nq)
    have hlq := fun d => hl (nq + d)
    simp only [← World.drewN_drewN] at hlq
    have hlq0 := hlq 0
    rw [World.drewN_zero] at hlq0
    have b0 : (w1.drewN nq).cell? ⟨xrb, 0, none⟩ = _ := b0
    have a0 : (w1.drewN nq).cell? ⟨xb, 0, none⟩ = _ := a0
    have a1 : (w1.drewN nq).cell? ⟨xb, 1, none⟩ = _ := a1
    have a2 : (w1.drewN nq).cell? ⟨xb, 2, none⟩ = _ := a2
    have a3 : (w1.drewN nq).cell? ⟨xb, 3, none⟩ = _ := a3
    have a4 : (w1.drewN nq).cell? ⟨xb, 4, none⟩ = _ := a4
    have a5 : (w1.drewN nq).cell? ⟨xb, 5, none⟩ = _ := a5
    have a6 : (w1.drewN nq).cell? ⟨xb, 6, none⟩ = _ := a6
    have a7 : (w1.drewN nq).cell? ⟨xb, 7, none⟩ = _ := a7
    have a8 : (w1.drewN nq).cell? ⟨xb, 8, none⟩ = _ := a8
    have a9 : (w1.drewN nq).cell? ⟨xb, 9, none⟩ = _ := a9
    have a10 : (w1.drewN nq).cell? ⟨xb, 10, none⟩ = _ := a10
    have c0 : (w1.drewN nq).cell? ⟨bp, 0, none⟩ = _ := c0
    have r0 : (w1.drewN nq).cell? ⟨w.heap.size, 0, none⟩ = _ := r0
    have r1 : (w1.drewN nq).cell? ⟨w.heap.size, 1, none⟩ = _ := r1
    have r2 : (w1.drewN nq).cell? ⟨w.heap.size, 2, none⟩ = _ := r2
    obtain ⟨⟨z0, z1, z2, z3, z4, z5, z6, z7, z8, z9, z10⟩, f0, f1, f2, f3, f4, f5, f6, f7, f8, f9, f10⟩ := HZ2.out.at11
    clear HZ HA hl0 hl
    generalize w1.drewN nq = wq at *
    have hld : (Instr.lookup 70 (.map (some B.mp)) (.agg #[.int .u32 k.s, .int .u32 k.g, .int .i64 k.d]) false).run Try.prog wq.drew = .ok (.pointer (some ⟨xrb, 0, none⟩)) wq.drew := hlq 1
    go_still_tail 12, (by kernel_rfl)
    change wpList _ _ _ _ _ wq.drew
    go_wp2_with fail
    have hfin := Row.drew <| HZ2.out.store11 (.int .u32 q0) (.int .u32 q1) (.int .u32 q2) (.int .u32 q3) (.int .u32 q4) (.int .u32 q5) (.int .i64 q6) (.int .i64 q7) (.int .i64 q8) (.int .u32 q9) (.int .u32 q10)
    have hbw := Below.drew <| below_store11 HB2.out hzw (.int .u32 q0) (.int .u32 q1) (.int .u32 q2) (.int .u32 q3) (.int .u32 q4) (.int .u32 q5) (.int .i64 q6) (.int .i64 q7) (.int .i64 q8) (.int .u32 q9) (.int .u32 q10)
    (try simp only [Exit.inBlock, Exit.then]); refine bodyPost_ret (results_cell2_row rfl _ _ z 96 #[.int .u32 q0, .int .u32 q1, .int .u32 q2, .int .u32 q3, .int .u32 q4, .int .u32 q5, .int .i64 q6, .int .i64 q7, .int .i64 q8, .int .u32 q9, .int .u32 q10] (0, 0) _ rfl hfin Try.underlying96 rfl (by kernel_rfl)) rfl ?_
    exact ⟨rfl, hbw⟩
end Go.Proofs.Ytkdiibgjkipdnaa
