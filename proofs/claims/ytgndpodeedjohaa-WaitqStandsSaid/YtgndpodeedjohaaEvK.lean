/-
  An evaluator of closed runs, eleventh part: an operation that may be a call; operations in the text's order.
-/
import Derived.Test.YtgndpodeedjohaaEvJ
namespace Go.Ev
open Go.RowKit
set_option linter.unusedSimpArgs false
set_option linter.unnecessarySimpa false
set_option linter.unusedVariables false

def Ret (FP : Nat → Prop) (n0 hi B : Nat) (m : Mu) (s : St) (H : Nat → Option RO) (w : World) (v : Value) (s' : St) : Ending → World → Prop :=
  fun e w' => ∃ v' m' H', e = .returned v' ∧ dn m' v = some v' ∧ Inv FP n0 hi B m' s' H' w' ∧ Ste B m s H w m' s' H' w'
abbrev Callee := FuncId → List Value → St → Option (Value × St)
structure CallOK (P : Program) (call : Callee) : Prop where
  mo : ∀ {g args s v s'}, call g args s = some (v, s') → Mo s s'
  fn : ∀ {g args s v s'}, call g args s = some (v, s') → ∃ fn : Func, P.funcs[g]? = some fn ∧ (fn.name == "runtime.NumGoroutine") = false ∧ fn.body.isNone = false
  sp : ∀ {FP : Nat → Prop} {n0 hi B : Nat} {m : Mu} {s s' : St} {H : Nat → Option RO} {w : World} {g : FuncId} {args args' : List Value} {v : Value}, call g args s = some (v, s') → Fits FP n0 hi s' → Inv FP n0 hi B m s H w →
    dnL (dn m) args = some args' → Calls P g args'.toArray w (Ret FP n0 hi B m s H w v s')
def evStep (P : Program) (call : Callee) (o : Oper) (fr : Fr) (s : St) : Option (Value × St) :=
  match o.op with
  | .call c => match c.callee with
    | .value f => match evalO fr f with
      | .func (.func g) a b => call g (a.toList ++ c.args.toList.map (evalO fr) ++ b.toList) s
      | _ => none
    | _ => evOp P o (evalO fr) s
  | _ => evOp P o (evalO fr) s
section
variable {FP : Nat → Prop} {n0 hi B : Nat} {m : Mu} {s s' : St} {H : Nat → Option RO} {w : World} {P : Program} {call : Callee} {o : Oper} {fr fr' : Fr} {a : Act} {v : Value}
theorem evStep_mo (hc : CallOK P call) (h : evStep P call o fr s = some (v, s')) : Mo s s' := by
  unfold evStep at h
  split at h
  · split at h
    · split at h
      · exact hc.mo h
      · cases h
    · exact evOp_mo h
  · exact evOp_mo h
theorem dn_of_dn0 {v v' : Value} (h : dn0 m v = some v') : dn m v = some v' := by
  apply dn_of_dn1
  unfold dn1
  split
  · simp [dn0] at h
  · simp [dn0] at h
  · exact h
theorem map_dn (xs : List Operand) (hd : ∀ x ∈ xs, dn m (evalO fr x) = some (a.eval x)) : dnL (dn m) (xs.map (evalO fr)) = some (xs.map a.eval) := by
  rw [dnL_iff, List.map_map, List.map_map]
  exact List.map_congr_left hd
theorem evStep_wp (hc : CallOK P call) (h : evStep P call o fr s = some (v, s')) (hf : Fits FP n0 hi s') (hv : Inv FP n0 hi B m s H w) (hd : ∀ x ∈ o.op.operands, dn m (evalO fr x) = some (a.eval x))
    {K : Act → World → Prop} {Q : Exit → Act → World → Prop} (hK : ∀ v' w' m' H', dn m' v = some v' → Inv FP n0 hi B m' s' H' w' → Ste B m s H w m' s' H' w' → K (a.put o.dst v') w') : o.wp P a w K Q := by
  have plain : evOp P o (evalO fr) s = some (v, s') → o.wp P a w K Q := by
    intro h
    obtain ⟨nx, w', m', H', h1, h2, h3, h4⟩ := evOp_spec (ρ' := a.eval) h hf hv hd
    unfold Oper.wp
    rw [h1]
    rcases h2 with ⟨v', rfl, h5⟩ | ⟨rfl, rfl⟩
    · rw [Oper.upon_value]; exact hK v' w' m' H' h5 h3 h4
    · rw [Oper.upon_skip]; exact hK undef w' m' H' rfl h3 h4
  unfold evStep at h
  split at h
  · rename_i c ho
    split at h
    · rename_i f hcal
      split at h
      · rename_i g x y hfn
        have hmem : ∀ z, z ∈ c.args → dn m (evalO fr z) = some (a.eval z) := fun z hz => hd z (by simp [ho, Op.operands, Call.operands, hcal, hz])
        have hff := hd f (by simp [ho, Op.operands, Call.operands, hcal])
        rw [hfn] at hff
        have hff : dn1 m (.func (.func g) x y) = some (a.eval f) := hff
        simp only [dn1] at hff
        split at hff
        · rename_i x' y' hx hy
          have he : a.eval f = .func (.func g) x'.toArray y'.toArray := (Option.some.inj hff).symm
          obtain ⟨fn, hfn1, hfn2, hfn3⟩ := hc.fn h
          have hargs : dnL (dn m) (x.toList ++ c.args.toList.map (evalO fr) ++ y.toList) = some (x' ++ c.args.toList.map a.eval ++ y') :=
            dnL_append (dnL_append (dnL_mono (fun _ _ => dn_of_dn0) hx) (map_dn c.args.toList (fun z hz => hmem z (by simpa using hz)))) (dnL_mono (fun _ _ => dn_of_dn0) hy)
          have hcall := hc.sp h hf hv hargs
          have hrun : (execOp a.eval o).run P w = .ok (.enter g (x' ++ c.args.toList.map a.eval ++ y').toArray) w := by
            simp only [execOp, ho, resolve, hcal, he, Deferred.ofValue, Sem.run_bind, Sem.run_pure, Result.andThen_ok, invoke, callFunc]
            have hp : (program).run P w = .ok P w := rfl
            simp only [hp, Result.andThen_ok, hfn1, hfn2, hfn3, Bool.false_eq_true, if_false, Sem.run_pure]
            congr 2
            apply Array.ext'
            simp
          unfold Oper.wp
          rw [hrun, Oper.upon_enter]
          refine hcall.mono ?_
          rintro e w' ⟨v', m', H', rfl, h5, h6, h7⟩
          exact hK v' w' m' H' h5 h6 h7
        · cases hff
      · cases h
    · exact plain h
  · exact plain h

def evOps (P : Program) (call : Callee) (ops : Array Oper) : List Oper → Fr → St → Option (Fr × St)
  | [], fr, s => some (fr, s)
  | o :: rest, fr, s =>
    if evWanted ops fr o then
      match evStep P call o fr s with
      | some (v, s1) => match fr.put o.dst v with
        | some fr1 => evOps P call ops rest fr1 s1
        | none => none
      | none => none
    else match fr.put o.dst undef with
      | some fr1 => evOps P call ops rest fr1 s
      | none => none
def okOps (ops : List Oper) : Bool := ops.all fun o => o.op.operands.toList.all okX
theorem evOps_mo (hc : CallOK P call) (ops : Array Oper) : ∀ (l : List Oper) (fr : Fr) (s : St), evOps P call ops l fr s = some (fr', s') → Mo s s'
  | [], fr, s, h => by simp only [evOps] at h; cases h; exact Mo.refl _
  | o :: rest, fr, s, h => by
    simp only [evOps] at h
    split at h
    · split at h
      · rename_i hs
        split at h
        · exact (evStep_mo hc hs).trans (evOps_mo hc ops rest _ _ h)
        · cases h
      · cases h
    · split at h
      · exact evOps_mo hc ops rest _ _ h
      · cases h
theorem evOps_wp (hc : CallOK P call) (ops : Array Oper) {Q : Exit → Act → World → Prop} : ∀ (l : List Oper) (fr : Fr) (s : St) (a : Act) (m : Mu) (H : Nat → Option RO) (w : World), okOps l = true → evOps P call ops l fr s = some (fr', s') → Fits FP n0 hi s' → Inv FP n0 hi B m s H w → TR m fr a →
    (∀ a' w' m' H', TR m' fr' a' → Inv FP n0 hi B m' s' H' w' → Ste B m s H w m' s' H' w' → Q .normal a' w') → wpList P ops Q l a w
  | [], fr, s, a, m, H, w, _, h, _, hv, ht, hQ => by
    simp only [evOps] at h
    cases h
    exact hQ a w m H ht hv (Ste.refl _ _ _ _ _)
  | o :: rest, fr, s, a, m, H, w, hok, h, hf, hv, ht, hQ => by
    simp only [okOps, List.all_cons, Bool.and_eq_true] at hok
    simp only [evOps] at h
    unfold wpList
    rw [wanted_eq ht]
    split at h
    · rename_i hw
      rw [if_pos hw]
      left
      split at h
      · rename_i v1 s1 hs
        split at h
        · rename_i fr1 hp
          have hf1 := (evOps_mo hc ops rest _ _ h).fits hf
          have hx := hok.1
          simp only [List.all_eq_true] at hx
          refine evStep_wp hc hs hf1 hv (fun x hx' => ht.eval (hx x (by simpa using hx'))) ?_
          intro v' w' m' H' hd hv' hst
          refine evOps_wp hc ops rest fr1 s1 _ m' H' w' hok.2 h hf hv' ((ht.mono hst.ext).put hp hd) ?_
          intro a2 w2 m2 H2 t2 v2 st2
          exact hQ a2 w2 m2 H2 t2 v2 (hst.trans st2)
        · cases h
      · cases h
    · rename_i hw
      rw [if_neg hw]
      split at h
      · rename_i fr1 hp
        exact evOps_wp hc ops rest fr1 s _ m H w hok.2 h hf hv (ht.put hp rfl) hQ
      · cases h
end
end Go.Ev
