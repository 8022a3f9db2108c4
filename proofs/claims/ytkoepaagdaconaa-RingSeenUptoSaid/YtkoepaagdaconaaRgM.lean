/-
  The statement RingSeen, where what it reads is of bulk at most the given number: for every input the law returns true, and each argument reads afterwards as it read before.
-/
import Derived.Test.YtkoepaagdaconaaRows
import Derived.Test.YtkoepaagdaconaaRgK
import Derived.Test.YtkoepaagdaconaaRgL
import Derived.WalkKit
import Derived.ProofKit
import Derived.OpenShut
import Derived.ChangeOld
import Derived.Below
import Derived.JoinedCond
import Derived.Deep.CondSized
namespace Go.Proofs.Ytkoepaagdaconaa.ringSeen
open Go.ChangeShapes Go.WideShapes Go.ChangeAt Go.RowKit Go.Deep
set_option linter.unusedVariables false
theorem own : ownKnob Try.prog.godebug = none := by kernel_rfl
theorem laidOut : laidOutB Try.prog = true := by kernel_rfl
set_option maxRecDepth 100000 in
theorem lifted (os : Os) (started : os.Started) (H : Type) (enc : TypeId × Value → H) (F : Stop.Interp) :
    ReturnsInHanded {} Try.checked os 5 .any ((Rows.OpenSpec.upto Rows.ringSeenSpec).pre6 enc Try.prog Try.f5 Rows.ringSeenUptoRow.domain false) (((Rows.OpenSpec.upto Rows.ringSeenSpec).at F).post enc Try.prog Try.f5 false true false false) := by
  refine returnsInHanded_of_cond_sized (C := Try.checked) (s := Rows.OpenSpec.upto Rows.ringSeenSpec) (k := Rows.uptoSmall) rfl own started (by kernel_rfl) Try.func5
    (OpenSpec.witness (enc := enc) (C := Try.checked) (s := Rows.OpenSpec.upto Rows.ringSeenSpec) (k := Rows.uptoSmall) rfl false ⟨#[], #[.agg #[.int .i64 0, .int .i64 0, .slice none 0 0, .slice none 0 0]], []⟩ 8 (by kernel_rfl) (by kernel_rfl) (by kernel_rfl)
      (x := ([.agg [.lit (.int .i64 0), .lit (.int .i64 0), .nil, .nil]], [], [])) (by kernel_rfl) rfl (by kernel_rfl)) ?_
  intro W base args ds gs before hval0 hW _ hk hsz0 _
  have hsz : (DataW.weightsEach Try.prog (Try.f5.params.toList ++ (Rows.OpenSpec.upto Rows.ringSeenSpec).bare.plain.varTypes Try.prog) (ds ++ gs)).all (· ≤ reachBytes) = true := hsz0
  have hval : ∀ (j : Nat) t v, Try.f5.params[j]? = some t → args[j]? = some v → Value.okWide Try.prog W .any base t v := hval0
  have hW' := hW
  obtain ⟨p, q, hA0, hV, rfl, hfz, hnd⟩ := hW'
  have hA : DataW.TrodAll enc Try.prog W 0 (fun _ => true) true Try.f5.params.toList args.toList ds p := hA0
  rw [Try.params5] at hA hval hsz
  obtain ⟨v0, vs0, d0, ds0, p0, q0, hargs, rfl, rfl, h0, r0⟩ := trodAll_cons hA
  obtain ⟨rfl, rfl, rfl⟩ := trodAll_nil r0
  obtain rfl : args = #[v0] := by cases args; simp_all
  obtain ⟨rfl, rfl⟩ := trodVars_none hV
  have k0 := h0
  have lt0 : ∀ x ∈ p0, x.block < W.heap.size := by obtain ⟨m, hm⟩ := k0; exact DataW.trod_lt m _ _ _ hm
  have hl0 : Light 54 d0 := light_arg hsz (j := 0) rfl rfl
  obtain ⟨x0, x1, x2, x3, y0, y1, y2, y3, n, rfl, rfl, _, f0, f1, f2, f3⟩ := Go.Joins.open_agg4 Try.underlying54 (by kernel_rfl) (by kernel_rfl) (hval 0 54 v0 rfl rfl) h0
  obtain ⟨s0, hc0, _, hw0⟩ := DataW.trod_int Try.underlying3 f0
  cases hc0
  obtain ⟨s1, hc1, _, hw1⟩ := DataW.trod_int Try.underlying3 f1
  cases hc1
  have hl2 : Light 22 y2.1 := hl0.field (j := 2) Try.underlying54 rfl rfl
  have hl3 : Light 22 y3.1 := hl0.field (j := 3) Try.underlying54 rfl rfl
  obtain ⟨a2, n2, c2, zs2, rfl, hI2, h82⟩ := is_inner (d := y2.1) (ps := y2.2) hl2 f2
  obtain ⟨a3, n3, c3, zs3, rfl, hI3, h83⟩ := is_inner (d := y3.1) (ps := y3.2) hl3 f3
  clear hA0 hval0 hsz0 hsz
  refine (ringSeen_walk s0 s1 a2 n2 c2 zs2 a3 n3 c3 zs3 W (int_wf hw0) (int_wf hw1) hI2 h82 hI3 h83).mono fun e W' ⟨he, bel⟩ => ?_
  subst he
  exact ⟨_, rfl, _, _, _, [], _, [], hW, trodAll_mk1 (shut_bool Try.underlying4 _), (trodAll_cons_mk (Below.trod laidOut (by kernel_rfl) (of_decide_eq_true (by kernel_rfl)) k0 bel lt0) trodAll_mk0), rfl, bel.frame _, fun h => by cases h⟩
theorem over : Rows.ringSeenUptoRow.holds Try.pinned (Rows.OpenSpec.upto Rows.ringSeenSpec) :=
  OpenClaim.holds_of_cond 5 Try.f5 rfl rfl rfl rfl rfl rfl rfl ⟨rfl, rfl, rfl, rfl, rfl⟩ rfl rfl rfl rfl rfl (by kernel_rfl) Try.func5 (by kernel_rfl)
    (of_decide_eq_true (by kernel_rfl)) (by unfold Func.isWrapper; first | (rw [if_pos (by decide +kernel)]; kernel_rfl) | (rw [if_neg (by decide +kernel)]; exact ⟨rfl, rfl⟩))
    (fun os started H enc _ F => lifted os started H enc F)
theorem proved : Rows.RingSeenUptoSaid := over
end Go.Proofs.Ytkoepaagdaconaa.ringSeen
namespace Go.Proofs.Ytkoepaagdaconaa
/-- The row, under a short name, for the claim. -/
theorem ringSeenUpto_holds : Rows.RingSeenUptoSaid := ringSeen.proved
end Go.Proofs.Ytkoepaagdaconaa
