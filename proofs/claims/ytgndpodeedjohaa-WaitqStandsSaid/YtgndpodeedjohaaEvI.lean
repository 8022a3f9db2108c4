/-
  An evaluator of closed runs, ninth part: an operation.
-/
import Derived.Test.YtgndpodeedjohaaEvH
import Derived.Orders
namespace Go.Ev
open Go.RowKit
set_option linter.unusedSimpArgs false
set_option linter.unnecessarySimpa false
set_option linter.unusedVariables false

def GoodN (FP : Nat → Prop) (n0 hi B : Nat) (P : Program) (x : Sem Next) (v : Value) (m : Mu) (s : St) (H : Nat → Option RO) (w : World) (s' : St) : Prop :=
  ∃ nx w' m' H', x.run P w = .ok nx w' ∧ ((∃ v', nx = .value v' ∧ dn m' v = some v') ∨ (nx = .skip ∧ v = undef)) ∧ Inv FP n0 hi B m' s' H' w' ∧ Ste B m s H w m' s' H' w'

def evPure (P : Program) (o : Oper) (ρ : Operand → Value) (s : St) : Option (Value × St) :=
  match o.op with
  | .select _ _ => none
  | _ => if o.op.operands.toList.all (fun x => cl (ρ x)) then
      match runPure P (execOp ρ o) with
      | some (.value v) => if cl v then some (v, s) else none
      | some .skip => some (undef, s)
      | _ => none
    else none
def wrapV (x : Option Value) (s : St) : Option (Value × St) := x.map fun v => (v, s)
def evOp (P : Program) (o : Oper) (ρ : Operand → Value) (s : St) : Option (Value × St) :=
  match o.op with
  | .move x => some (ρ x, s)
  | .assign x => some (ρ x, s)
  | .pick c a b => match ρ c with
    | .bool t => some (if t then ρ a else ρ b, s)
    | _ => none
  | .alloc e => evAlloc P e s
  | .box e x => evBox e (ρ x) s
  | .load t a => evLoad P t (ρ a) s
  | .store t a x => evStore P t (ρ a) (ρ x) s
  | .nilCheck x => match ρ x with
    | .pointer (some a) => some (.pointer (some a), s)
    | _ => evPure P o ρ s
  | .fieldAddr t x f => wrapV (evField P t (ρ x) f) s
  | .indexAddr t x i => wrapV (evIndexAt P t (ρ x) (ρ i)) s
  | .slice t x lo h mx => if cl (ρ x) then evPure P o ρ s else wrapV (evSlice P t (ρ x) (lo.map ρ) (h.map ρ) (mx.map ρ)) s
  | .build t ps => wrapV (evBuild P t ps ρ) s
  | .buildSlice t n ps => evBuildSlice P t n ps ρ s
  | .makeSlice t l c => evMakeSlice P t (ρ l) (ρ c) s
  | .field t x f => wrapV (evFieldV P t (ρ x) f) s
  | .index t x i => if cl (ρ x) then evPure P o ρ s else wrapV (evIndexV P t (ρ x) (ρ i)) s
  | .extract x i => wrapV (evExtract (ρ x) i) s
  | .makeFunc fn a c => wrapV (evMakeFunc fn a c ρ) s
  | .makeMap _ r => match r with
    | none => evMakeMap s
    | some _ => none
  | .lookup t x k ok => if cl (ρ x) then evPure P o ρ s else evLookup P t (ρ x) (ρ k) ok s
  | .mapUpdate t x k v => evMapUpdate P t (ρ x) (ρ k) (ρ v) s
  | .insert t x k v => evMapUpdate P t (ρ x) (ρ k) (ρ v) s
  | .binOp op t x y _ => if cl (ρ x) && cl (ρ y) then evPure P o ρ s else wrapV (evCmp P op t (ρ x) (ρ y)) s
  | .typeAssert x _ a ok => if cl (ρ x) then evPure P o ρ s else wrapV (evAssert P (ρ x) a ok) s
  | .makeInterface t x => if cl (ρ x) then evPure P o ρ s else wrapV (evMakeIface P t (ρ x)) s
  | .call c => match c.callee, c.args.toList, c.argTypes.toList with
    | .builtin .append, [a, b], [t, u] => if Nat.beq t u then evAppend P t (ρ a) (ρ b) s else none
    | .builtin .len, [a], [t] => if cl (ρ a) then evPure P o ρ s else evLen P t (ρ a) s
    | .builtin .copy, [a, b], [t, _] => evCopy P t (ρ a) (ρ b) s
    | .builtin .delete, [a, b], [t, _] => if cl (ρ a) then evPure P o ρ s else evDelete P t (ρ a) (ρ b) s
    | .builtin _, _, _ => evPure P o ρ s
    | _, _, _ => none
  | .unOp _ _ _ => evPure P o ρ s
  | .convert _ _ _ => evPure P o ρ s
  | _ => none
section
variable {FP : Nat → Prop} {n0 hi B : Nat} {m : Mu} {s s' : St} {H : Nat → Option RO} {w : World} {P : Program} {o : Oper} {ρ ρ' : Operand → Value} {v : Value}
theorem Good.next {x : Sem Value} (h : Good FP n0 hi B P x v m s H w s') : GoodN FP n0 hi B P (do pure (.value (← x))) v m s H w s' := by
  obtain ⟨v', w', m', H', h1, h2, h3, h4⟩ := h
  exact ⟨.value v', w', m', H', by simp [h1], .inl ⟨v', rfl, h2⟩, h3, h4⟩
theorem GoodN.same {v' : Value} {x : Sem Next} (hx : x.run P w = .ok (.value v') w) (hd : dn m v = some v') (hv : Inv FP n0 hi B m s H w) : GoodN FP n0 hi B P x v m s H w s :=
  ⟨.value v', w, m, H, hx, .inl ⟨v', rfl, hd⟩, hv, Ste.refl _ _ _ _ _⟩
theorem evPure_spec (h : evPure P o ρ s = some (v, s')) (hv : Inv FP n0 hi B m s H w) (hd : ∀ x ∈ o.op.operands, dn m (ρ x) = some (ρ' x)) : GoodN FP n0 hi B P (execOp ρ' o) v m s H w s' := by
  unfold evPure at h
  split at h
  · cases h
  · rename_i hns
    split at h
    · rename_i hc
      simp only [List.all_eq_true] at hc
      have e : execOp ρ o = execOp ρ' o := execOp_congr o (fun cs b e => hns cs b e) (fun x hx => (cl_eq (hc x (by simpa using hx)) (hd x hx)).symm)
      rw [← e]
      split at h
      · rename_i u hu
        split at h
        · rename_i hcu
          cases h
          exact GoodN.same (runPure_sound hu w) (cl_dn hcu m) hv
        · cases h
      · rename_i hu
        cases h
        exact ⟨.skip, w, m, H, runPure_sound hu w, .inr ⟨rfl, rfl⟩, hv, Ste.refl _ _ _ _ _⟩
      · cases h
    · cases h
theorem wrapV_some {x : Option Value} (h : wrapV x s = some (v, s')) : x = some v ∧ s' = s := by
  obtain ⟨y, hy, he⟩ := Option.map_eq_some_iff.1 h
  obtain ⟨rfl, rfl⟩ := Prod.mk.inj he
  exact ⟨hy, rfl⟩
theorem sameInt (x : Option Operand) (h : ∀ y, x = some y → dn m (ρ y) = some (ρ' y)) : SameInt (x.map ρ) (x.map ρ') := by
  cases x with
  | none => exact ⟨fun _ => rfl, fun k i e => by cases e⟩
  | some y =>
    refine ⟨(fun e => by cases e), fun k i e => ?_⟩
    have h1 := h y rfl
    simp only [Option.map_some, Option.some.injEq] at e ⊢
    rw [e] at h1
    exact (Option.some.inj h1).symm
theorem run_builtin {c : Call} {b : Builtin} (ho : o.op = .call c) (hc : c.callee = .builtin b) : (execOp ρ' o).run P w = (builtin b c.argTypes o.type (c.args.map fun | .const _ => true | _ => false) (c.args.map ρ')).run P w := by
  simp [execOp, ho, resolve, hc, invoke]
  rfl
theorem evOp_spec (h : evOp P o ρ s = some (v, s')) (hf : Fits FP n0 hi s') (hv : Inv FP n0 hi B m s H w) (hd : ∀ x ∈ o.op.operands, dn m (ρ x) = some (ρ' x)) : GoodN FP n0 hi B P (execOp ρ' o) v m s H w s' := by
  unfold evOp at h
  split at h
  case h_1 x ho =>
    cases h
    exact GoodN.same (v' := ρ' x) (by simp [execOp, ho]) (hd x (by simp [ho, Op.operands])) hv
  case h_2 x ho =>
    cases h
    exact GoodN.same (v' := ρ' x) (by simp [execOp, ho]) (hd x (by simp [ho, Op.operands])) hv
  case h_3 c a b ho =>
    split at h
    · rename_i t ht
      cases h
      have ht' : ρ' c = .bool t := by
        have hc := hd c (by simp [ho, Op.operands])
        rw [ht] at hc
        exact (Option.some.inj hc).symm
      refine GoodN.same (v' := if t then ρ' a else ρ' b) (by simp [execOp, ho, ht', asBool]) ?_ hv
      cases t
      · exact hd b (by simp [ho, Op.operands])
      · exact hd a (by simp [ho, Op.operands])
    · cases h
  case h_4 e ho =>
    have := (evAlloc_spec h hf hv).next
    simpa [execOp, ho] using this
  case h_5 e x ho =>
    have := (evBox_spec (P := P) h hf hv (hd x (by simp [ho, Op.operands]))).next
    simpa [execOp, ho] using this
  case h_6 t a ho =>
    have := (evLoad_spec h hf hv (hd a (by simp [ho, Op.operands]))).next
    simpa [execOp, ho] using this
  case h_7 t a x ho =>
    obtain ⟨rfl, w', H', h1, h2, h3⟩ := evStore_spec h hf hv (hd a (by simp [ho, Op.operands])) (hd x (by simp [ho, Op.operands]))
    exact ⟨.skip, w', m, H', by simp [execOp, ho, h1], .inr ⟨rfl, rfl⟩, h2, h3⟩
  case h_8 x ho =>
    split at h
    · rename_i a ha
      cases h
      have hx := hd x (by simp [ho, Op.operands])
      rw [ha] at hx
      obtain ⟨p, hp, he⟩ := dn_ptr hx
      refine GoodN.same ?_ hx hv
      simp [execOp, ho, he]
    · exact evPure_spec h hv hd
  case h_9 t x f ho =>
    obtain ⟨hh, rfl⟩ := wrapV_some h
    have := (evField_spec (P := P) hh hv (hd x (by simp [ho, Op.operands]))).next
    simpa [execOp, ho] using this
  case h_10 t x i ho =>
    obtain ⟨hh, rfl⟩ := wrapV_some h
    have := (evIndexAt_spec (P := P) hh hv (hd x (by simp [ho, Op.operands])) (hd i (by simp [ho, Op.operands]))).next
    simpa [execOp, ho] using this
  case h_11 t x lo hi' mx ho =>
    split at h
    · exact evPure_spec h hv hd
    · obtain ⟨hh, rfl⟩ := wrapV_some h
      have := (evSlice_spec (P := P) hh hv (hd x (by simp [ho, Op.operands])) (sameInt lo fun y e => hd y (by simp [ho, Op.operands, e])) (sameInt hi' fun y e => hd y (by simp [ho, Op.operands, e])) (sameInt mx fun y e => hd y (by simp [ho, Op.operands, e]))).next
      simpa [execOp, ho] using this
  case h_12 t ps ho =>
    obtain ⟨hh, rfl⟩ := wrapV_some h
    have := (evBuild_spec (P := P) hh hv (fun x hx => hd x.2 (by simp only [ho, Op.operands]; simp; exact ⟨x.1, by simpa using hx⟩))).next
    simpa [execOp, ho] using this
  case h_13 t n ps ho =>
    have := (evBuildSlice_spec h hf hv (fun x hx => hd x.2 (by simp only [ho, Op.operands]; simp; exact ⟨x.1, by simpa using hx⟩))).next
    simpa [execOp, ho] using this
  case h_14 t l c ho =>
    have := (evMakeSlice_spec h hf hv (hd l (by simp [ho, Op.operands])) (hd c (by simp [ho, Op.operands]))).next
    simpa [execOp, ho] using this
  case h_15 t x f ho =>
    obtain ⟨hh, rfl⟩ := wrapV_some h
    have := (evFieldV_spec (P := P) hh hv (hd x (by simp [ho, Op.operands]))).next
    simpa [execOp, ho] using this
  case h_16 t x i ho =>
    split at h
    · exact evPure_spec h hv hd
    · obtain ⟨hh, rfl⟩ := wrapV_some h
      have := (evIndexV_spec (P := P) hh hv (hd x (by simp [ho, Op.operands])) (hd i (by simp [ho, Op.operands]))).next
      simpa [execOp, ho] using this
  case h_17 x i ho =>
    obtain ⟨hh, rfl⟩ := wrapV_some h
    have := (evExtract_spec (P := P) hh hv (hd x (by simp [ho, Op.operands]))).next
    simpa [execOp, ho] using this
  case h_18 fn a c ho =>
    obtain ⟨hh, rfl⟩ := wrapV_some h
    have := (evMakeFunc_spec (P := P) hh hv (fun x hx => hd x (by simp [ho, Op.operands, hx])) (fun x hx => hd x (by simp [ho, Op.operands, hx]))).next
    simpa [execOp, ho] using this
  case h_19 t r ho =>
    split at h
    · have := (evMakeMap_spec (P := P) (t := t) h hf hv).next
      simpa [execOp, ho] using this
    · cases h
  case h_20 t x k ok ho =>
    split at h
    · exact evPure_spec h hv hd
    · have := (evLookup_spec (P := P) h hf hv (hd x (by simp [ho, Op.operands])) (hd k (by simp [ho, Op.operands]))).next
      simpa [execOp, ho] using this
  case h_21 t x k y ho =>
    obtain ⟨rfl, w', H', h1, h2, h3⟩ := evMapUpdate_spec h hf hv (hd x (by simp [ho, Op.operands])) (hd k (by simp [ho, Op.operands])) (hd y (by simp [ho, Op.operands]))
    exact ⟨.skip, w', m, H', by simp [execOp, ho, h1], .inr ⟨rfl, rfl⟩, h2, h3⟩
  case h_22 t x k y ho =>
    obtain ⟨rfl, w', H', h1, h2, h3⟩ := evMapUpdate_spec h hf hv (hd x (by simp [ho, Op.operands])) (hd k (by simp [ho, Op.operands])) (hd y (by simp [ho, Op.operands]))
    exact ⟨.skip, w', m, H', by simp [execOp, ho, h1], .inr ⟨rfl, rfl⟩, h2, h3⟩
  case h_23 op t x y yt ho =>
    split at h
    · exact evPure_spec h hv hd
    · obtain ⟨hh, rfl⟩ := wrapV_some h
      have := (evCmp_spec (P := P) (a := x) (b := y) hh hv (hd x (by simp [ho, Op.operands])) (hd y (by simp [ho, Op.operands]))).next
      simpa [execOp, ho] using this
  case h_24 x xt a ok ho =>
    split at h
    · exact evPure_spec h hv hd
    · obtain ⟨hh, rfl⟩ := wrapV_some h
      have := (evAssert_spec (P := P) (xt := xt) hh hv (hd x (by simp [ho, Op.operands]))).next
      simpa [execOp, ho] using this
  case h_25 t x ho =>
    split at h
    · exact evPure_spec h hv hd
    · obtain ⟨hh, rfl⟩ := wrapV_some h
      have := (evMakeIface_spec (P := P) hh hv (hd x (by simp [ho, Op.operands]))).next
      simpa [execOp, ho] using this
  case h_26 c ho =>
    split at h
    · rename_i a b t u hc ha ht
      split at h
      · rename_i htu
        have htu : t = u := Nat.eq_of_beq_eq_true htu
        subst htu
        have ea : c.args = #[a, b] := by apply Array.ext'; simpa using ha
        have et : c.argTypes = #[t, t] := by apply Array.ext'; simpa using ht
        have hop : ∀ x, x ∈ c.args → dn m (ρ x) = some (ρ' x) := fun x hx => hd x (by simp [ho, Op.operands, Call.operands, hc, hx])
        have := (evAppend_spec (ty := o.type) h hf hv (hop a (by simp [ea])) (hop b (by simp [ea]))).next
        obtain ⟨nx, w', m', H', h1, h2⟩ := this
        refine ⟨nx, w', m', H', ?_, h2⟩
        rw [run_builtin ho hc, ea, et, ← h1]
        simp [builtin]
      · cases h
    · rename_i a t hc ha ht
      split at h
      · exact evPure_spec h hv hd
      · have ea : c.args = #[a] := by apply Array.ext'; simpa using ha
        have et : c.argTypes = #[t] := by apply Array.ext'; simpa using ht
        have hop : ∀ x, x ∈ c.args → dn m (ρ x) = some (ρ' x) := fun x hx => hd x (by simp [ho, Op.operands, Call.operands, hc, hx])
        obtain ⟨nx, w', m', H', h1, h2⟩ := (evLen_spec (ty := o.type) h hf hv (hop a (by simp [ea]))).next
        refine ⟨nx, w', m', H', ?_, h2⟩
        rw [run_builtin ho hc, ea, et, ← h1]
        simp [builtin]
    · rename_i a b t u hc ha ht
      have ea : c.args = #[a, b] := by apply Array.ext'; simpa using ha
      have et : c.argTypes = #[t, u] := by apply Array.ext'; simpa using ht
      have hop : ∀ x, x ∈ c.args → dn m (ρ x) = some (ρ' x) := fun x hx => hd x (by simp [ho, Op.operands, Call.operands, hc, hx])
      obtain ⟨nx, w', m', H', h1, h2⟩ := (evCopy_spec (u := u) (ty := o.type) h hf hv (hop a (by simp [ea])) (hop b (by simp [ea]))).next
      refine ⟨nx, w', m', H', ?_, h2⟩
      rw [run_builtin ho hc, ea, et, ← h1]
      simp [builtin]
    · rename_i a b t u hc ha ht
      split at h
      · exact evPure_spec h hv hd
      · have ea : c.args = #[a, b] := by apply Array.ext'; simpa using ha
        have et : c.argTypes = #[t, u] := by apply Array.ext'; simpa using ht
        have hop : ∀ x, x ∈ c.args → dn m (ρ x) = some (ρ' x) := fun x hx => hd x (by simp [ho, Op.operands, Call.operands, hc, hx])
        obtain ⟨nx, w', m', H', h1, h2⟩ := (evDelete_spec (u := u) (ty := o.type) h hf hv (hop a (by simp [ea])) (hop b (by simp [ea]))).next
        refine ⟨nx, w', m', H', ?_, h2⟩
        rw [run_builtin ho hc, ea, et, ← h1]
        simp [builtin]
    · exact evPure_spec h hv hd
    · cases h
  case h_27 => exact evPure_spec h hv hd
  case h_28 => exact evPure_spec h hv hd
  case h_29 => cases h
end
end Go.Ev
