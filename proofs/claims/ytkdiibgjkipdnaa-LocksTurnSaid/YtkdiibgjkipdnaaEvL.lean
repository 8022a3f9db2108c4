/-
  An evaluator of closed runs, twelfth part: a region that draws its order: the run in the text's order, and what must be ordered.
-/
import Derived.Test.YtkdiibgjkipdnaaEvH
import Derived.Orders
import Derived.Tactics
namespace Go.Ev
open Go.RowKit
set_option linter.unusedSimpArgs false
set_option linter.unnecessarySimpa false
set_option linter.unusedVariables false

def GoodN (FP : Nat → Prop) (n0 hi B : Nat) (P : Program) (x : Sem Next) (v : Value) (m : Mu) (s : St) (H : Nat → Option RO) (w : World) (s' : St) : Prop :=
  ∃ nx w' m' H', x.run P w = .ok nx w' ∧ ((∃ v', nx = .value v' ∧ dn m' v = some v') ∨ (nx = .skip ∧ v = undef)) ∧ Inv FP n0 hi B m' s' H' w' ∧ Ste B m s H w m' s' H' w'

def evPure (P : Program) (o : Oper) (ρ : Operand → Value) (s : St) : Option (Value × St) :=
  match o.op with
  | .select _ _ => none
  | _ => if o.op.operands.toList.all (fun x => cl (ρ x)) then
      match runPure P (execOp ρ o) with
      | some (.value v) => if cl v then some (v, s) else none
      | some .skip => some (undef, s)
      | _ => none
    else none
def wrapV (x : Option Value) (s : St) : Option (Value × St) := x.map fun v => (v, s)
def evOp (P : Program) (o : Oper) (ρ : Operand → Value) (s : St) : Option (Value × St) :=
  match o.op with
  | .move x => some (ρ x, s)
  | .assign x => some (ρ x, s)
  | .pick c a b => match ρ c with
    | .bool t => some (if t then ρ a else ρ b, s)
    | _ => none
  | .alloc e => evAlloc P e s
  | .box e x => evBox e (ρ x) s
  | .load t a => evLoad P t (ρ a) s
  | .store t a x => evStore P t (ρ a) (ρ x) s
  | .nilCheck x => match ρ x with
    | .pointer (some a) => some (.pointer (some a), s)
    | _ => evPure P o ρ s
  | .fieldAddr t x f => wrapV (evField P t (ρ x) f) s
  | .indexAddr t x i => wrapV (evIndexAt P t (ρ x) (ρ i)) s
  | .slice t x lo h mx => if cl (ρ x) then evPure P o ρ s else wrapV (evSlice P t (ρ x) (lo.map ρ) (h.map ρ) (mx.map ρ)) s
  | .build t ps => wrapV (evBuild P t ps ρ) s
  | .buildSlice t n ps => evBuildSlice P t n ps ρ s
  | .makeSlice t l c => evMakeSlice P t (ρ l) (ρ c) s
  | .field t x f => wrapV (evFieldV P t (ρ x) f) s
  | .index t x i => if cl (ρ x) then evPure P o ρ s else wrapV (evIndexV P t (ρ x) (ρ i)) s
  | .extract x i => wrapV (evExtract (ρ x) i) s
  | .makeFunc fn a c => wrapV (evMakeFunc fn a c ρ) s
  | .makeMap _ r => match r with
    | none => evMakeMap s
    | some _ => none
  | .lookup t x k ok => if cl (ρ x) then evPure P o ρ s else evLookup P t (ρ x) (ρ k) ok s
  | .mapUpdate t x k v => evMapUpdate P t (ρ x) (ρ k) (ρ v) s
  | .insert t x k v => evMapUpdate P t (ρ x) (ρ k) (ρ v) s
  | .binOp op t x y _ => if cl (ρ x) && cl (ρ y) then evPure P o ρ s else wrapV (evCmp P op t (ρ x) (ρ y)) s
  | .typeAssert x _ a ok => if cl (ρ x) then evPure P o ρ s else wrapV (evAssert P (ρ x) a ok) s
  | .makeInterface t x => if cl (ρ x) then evPure P o ρ s else wrapV (evMakeIface P t (ρ x)) s
  | .call c => match c.callee, c.args.toList, c.argTypes.toList with
    | .builtin .append, [a, b], [t, u] => if Nat.beq t u then evAppend P t (ρ a) (ρ b) s else none
    | .builtin .len, [a], [t] => if cl (ρ a) then evPure P o ρ s else evLen P t (ρ a) s
    | .builtin .copy, [a, b], [t, _] => evCopy P t (ρ a) (ρ b) s
    | .builtin .delete, [a, b], [t, _] => if cl (ρ a) then evPure P o ρ s else evDelete P t (ρ a) (ρ b) s
    | .builtin _, _, _ => evPure P o ρ s
    | _, _, _ => none
  | .unOp _ _ _ => evPure P o ρ s
  | .convert _ _ _ => evPure P o ρ s
  | _ => none
section
variable {FP : Nat → Prop} {n0 hi B : Nat} {m : Mu} {s s' : St} {H : Nat → Option RO} {w : World} {P : Program} {o : Oper} {ρ ρ' : Operand → Value} {v : Value}
theorem Good.next {x : Sem Value} (h : Good FP n0 hi B P x v m s H w s') : GoodN FP n0 hi B P (do pure (.value (← x))) v m s H w s' := by
  obtain ⟨v', w', m', H', h1, h2, h3, h4⟩ := h
  exact ⟨.value v', w', m', H', by simp [h1], .inl ⟨v', rfl, h2⟩, h3, h4⟩
theorem GoodN.same {v' : Value} {x : Sem Next} (hx : x.run P w = .ok (.value v') w) (hd : dn m v = some v') (hv : Inv FP n0 hi B m s H w) : GoodN FP n0 hi B P x v m s H w s :=
  ⟨.value v', w, m, H, hx, .inl ⟨v', rfl, hd⟩, hv, Ste.refl _ _ _ _ _⟩
theorem evPure_spec (h : evPure P o ρ s = some (v, s')) (hv : Inv FP n0 hi B m s H w) (hd : ∀ x ∈ o.op.operands, dn m (ρ x) = some (ρ' x)) : GoodN FP n0 hi B P (execOp ρ' o) v m s H w s' := by
  unfold evPure at h
  split at h
  · cases h
  · rename_i hns
    split at h
    · rename_i hc
      simp only [List.all_eq_true] at hc
      have e : execOp ρ o = execOp ρ' o := execOp_congr o (fun cs b e => hns cs b e) (fun x hx => (cl_eq (hc x (by simpa using hx)) (hd x hx)).symm)
      rw [← e]
      split at h
      · rename_i u hu
        split at h
        · rename_i hcu
          cases h
          exact GoodN.same (runPure_sound hu w) (cl_dn hcu m) hv
        · cases h
      · rename_i hu
        cases h
        exact ⟨.skip, w, m, H, runPure_sound hu w, .inr ⟨rfl, rfl⟩, hv, Ste.refl _ _ _ _ _⟩
      · cases h
    · cases h
theorem wrapV_some {x : Option Value} (h : wrapV x s = some (v, s')) : x = some v ∧ s' = s := by
  obtain ⟨y, hy, he⟩ := Option.map_eq_some_iff.1 h
  obtain ⟨rfl, rfl⟩ := Prod.mk.inj he
  exact ⟨hy, rfl⟩
theorem sameInt (x : Option Operand) (h : ∀ y, x = some y → dn m (ρ y) = some (ρ' y)) : SameInt (x.map ρ) (x.map ρ') := by
  cases x with
  | none => exact ⟨fun _ => rfl, fun k i e => by cases e⟩
  | some y =>
    refine ⟨(fun e => by cases e), fun k i e => ?_⟩
    have h1 := h y rfl
    simp only [Option.map_some, Option.some.injEq] at e ⊢
    rw [e] at h1
    exact (Option.some.inj h1).symm
theorem run_builtin {c : Call} {b : Builtin} (ho : o.op = .call c) (hc : c.callee = .builtin b) : (execOp ρ' o).run P w = (builtin b c.argTypes o.type (c.args.map fun | .const _ => true | _ => false) (c.args.map ρ')).run P w := by
  simp [execOp, ho, resolve, hc, invoke]
  rfl
theorem evOp_spec (h : evOp P o ρ s = some (v, s')) (hf : Fits FP n0 hi s') (hv : Inv FP n0 hi B m s H w) (hd : ∀ x ∈ o.op.operands, dn m (ρ x) = some (ρ' x)) : GoodN FP n0 hi B P (execOp ρ' o) v m s H w s' := by
  unfold evOp at h
  split at h
  case h_1 x ho =>
    cases h
    exact GoodN.same (v' := ρ' x) (by simp [execOp, ho]) (hd x (by simp [ho, Op.operands])) hv
  case h_2 x ho =>
    cases h
    exact GoodN.same (v' := ρ' x) (by simp [execOp, ho]) (hd x (by simp [ho, Op.operands])) hv
  case h_3 c a b ho =>
    split at h
    · rename_i t ht
      cases h
      have ht' : ρ' c = .bool t := by
        have hc := hd c (by simp [ho, Op.operands])
        rw [ht] at hc
        exact (Option.some.inj hc).symm
      refine GoodN.same (v' := if t then ρ' a else ρ' b) (by simp [execOp, ho, ht', asBool]) ?_ hv
      cases t
      · exact hd b (by simp [ho, Op.operands])
      · exact hd a (by simp [ho, Op.operands])
    · cases h
  case h_4 e ho =>
    have := (evAlloc_spec h hf hv).next
    simpa [execOp, ho] using this
  case h_5 e x ho =>
    have := (evBox_spec (P := P) h hf hv (hd x (by simp [ho, Op.operands]))).next
    simpa [execOp, ho] using this
  case h_6 t a ho =>
    have := (evLoad_spec h hf hv (hd a (by simp [ho, Op.operands]))).next
    simpa [execOp, ho] using this
  case h_7 t a x ho =>
    obtain ⟨rfl, w', H', h1, h2, h3⟩ := evStore_spec h hf hv (hd a (by simp [ho, Op.operands])) (hd x (by simp [ho, Op.operands]))
    exact ⟨.skip, w', m, H', by simp [execOp, ho, h1], .inr ⟨rfl, rfl⟩, h2, h3⟩
  case h_8 x ho =>
    split at h
    · rename_i a ha
      cases h
      have hx := hd x (by simp [ho, Op.operands])
      rw [ha] at hx
      obtain ⟨p, hp, he⟩ := dn_ptr hx
      refine GoodN.same ?_ hx hv
      simp [execOp, ho, he]
    · exact evPure_spec h hv hd
  case h_9 t x f ho =>
    obtain ⟨hh, rfl⟩ := wrapV_some h
    have := (evField_spec (P := P) hh hv (hd x (by simp [ho, Op.operands]))).next
    simpa [execOp, ho] using this
  case h_10 t x i ho =>
    obtain ⟨hh, rfl⟩ := wrapV_some h
    have := (evIndexAt_spec (P := P) hh hv (hd x (by simp [ho, Op.operands])) (hd i (by simp [ho, Op.operands]))).next
    simpa [execOp, ho] using this
  case h_11 t x lo hi' mx ho =>
    split at h
    · exact evPure_spec h hv hd
    · obtain ⟨hh, rfl⟩ := wrapV_some h
      have := (evSlice_spec (P := P) hh hv (hd x (by simp [ho, Op.operands])) (sameInt lo fun y e => hd y (by simp [ho, Op.operands, e])) (sameInt hi' fun y e => hd y (by simp [ho, Op.operands, e])) (sameInt mx fun y e => hd y (by simp [ho, Op.operands, e]))).next
      simpa [execOp, ho] using this
  case h_12 t ps ho =>
    obtain ⟨hh, rfl⟩ := wrapV_some h
    have := (evBuild_spec (P := P) hh hv (fun x hx => hd x.2 (by simp only [ho, Op.operands]; simp; exact ⟨x.1, by simpa using hx⟩))).next
    simpa [execOp, ho] using this
  case h_13 t n ps ho =>
    have := (evBuildSlice_spec h hf hv (fun x hx => hd x.2 (by simp only [ho, Op.operands]; simp; exact ⟨x.1, by simpa using hx⟩))).next
    simpa [execOp, ho] using this
  case h_14 t l c ho =>
    have := (evMakeSlice_spec h hf hv (hd l (by simp [ho, Op.operands])) (hd c (by simp [ho, Op.operands]))).next
    simpa [execOp, ho] using this
  case h_15 t x f ho =>
    obtain ⟨hh, rfl⟩ := wrapV_some h
    have := (evFieldV_spec (P := P) hh hv (hd x (by simp [ho, Op.operands]))).next
    simpa [execOp, ho] using this
  case h_16 t x i ho =>
    split at h
    · exact evPure_spec h hv hd
    · obtain ⟨hh, rfl⟩ := wrapV_some h
      have := (evIndexV_spec (P := P) hh hv (hd x (by simp [ho, Op.operands])) (hd i (by simp [ho, Op.operands]))).next
      simpa [execOp, ho] using this
  case h_17 x i ho =>
    obtain ⟨hh, rfl⟩ := wrapV_some h
    have := (evExtract_spec (P := P) hh hv (hd x (by simp [ho, Op.operands]))).next
    simpa [execOp, ho] using this
  case h_18 fn a c ho =>
    obtain ⟨hh, rfl⟩ := wrapV_some h
    have := (evMakeFunc_spec (P := P) hh hv (fun x hx => hd x (by simp [ho, Op.operands, hx])) (fun x hx => hd x (by simp [ho, Op.operands, hx]))).next
    simpa [execOp, ho] using this
  case h_19 t r ho =>
    split at h
    · have := (evMakeMap_spec (P := P) (t := t) h hf hv).next
      simpa [execOp, ho] using this
    · cases h
  case h_20 t x k ok ho =>
    split at h
    · exact evPure_spec h hv hd
    · have := (evLookup_spec (P := P) h hf hv (hd x (by simp [ho, Op.operands])) (hd k (by simp [ho, Op.operands]))).next
      simpa [execOp, ho] using this
  case h_21 t x k y ho =>
    obtain ⟨rfl, w', H', h1, h2, h3⟩ := evMapUpdate_spec h hf hv (hd x (by simp [ho, Op.operands])) (hd k (by simp [ho, Op.operands])) (hd y (by simp [ho, Op.operands]))
    exact ⟨.skip, w', m, H', by simp [execOp, ho, h1], .inr ⟨rfl, rfl⟩, h2, h3⟩
  case h_22 t x k y ho =>
    obtain ⟨rfl, w', H', h1, h2, h3⟩ := evMapUpdate_spec h hf hv (hd x (by simp [ho, Op.operands])) (hd k (by simp [ho, Op.operands])) (hd y (by simp [ho, Op.operands]))
    exact ⟨.skip, w', m, H', by simp [execOp, ho, h1], .inr ⟨rfl, rfl⟩, h2, h3⟩
  case h_23 op t x y yt ho =>
    split at h
    · exact evPure_spec h hv hd
    · obtain ⟨hh, rfl⟩ := wrapV_some h
      have := (evCmp_spec (P := P) (a := x) (b := y) hh hv (hd x (by simp [ho, Op.operands])) (hd y (by simp [ho, Op.operands]))).next
      simpa [execOp, ho] using this
  case h_24 x xt a ok ho =>
    split at h
    · exact evPure_spec h hv hd
    · obtain ⟨hh, rfl⟩ := wrapV_some h
      have := (evAssert_spec (P := P) (xt := xt) hh hv (hd x (by simp [ho, Op.operands]))).next
      simpa [execOp, ho] using this
  case h_25 t x ho =>
    split at h
    · exact evPure_spec h hv hd
    · obtain ⟨hh, rfl⟩ := wrapV_some h
      have := (evMakeIface_spec (P := P) hh hv (hd x (by simp [ho, Op.operands]))).next
      simpa [execOp, ho] using this
  case h_26 c ho =>
    split at h
    · rename_i a b t u hc ha ht
      split at h
      · rename_i htu
        have htu : t = u := Nat.eq_of_beq_eq_true htu
        subst htu
        have ea : c.args = #[a, b] := by apply Array.ext'; simpa using ha
        have et : c.argTypes = #[t, t] := by apply Array.ext'; simpa using ht
        have hop : ∀ x, x ∈ c.args → dn m (ρ x) = some (ρ' x) := fun x hx => hd x (by simp [ho, Op.operands, Call.operands, hc, hx])
        have := (evAppend_spec (ty := o.type) h hf hv (hop a (by simp [ea])) (hop b (by simp [ea]))).next
        obtain ⟨nx, w', m', H', h1, h2⟩ := this
        refine ⟨nx, w', m', H', ?_, h2⟩
        rw [run_builtin ho hc, ea, et, ← h1]
        simp [builtin]
      · cases h
    · rename_i a t hc ha ht
      split at h
      · exact evPure_spec h hv hd
      · have ea : c.args = #[a] := by apply Array.ext'; simpa using ha
        have et : c.argTypes = #[t] := by apply Array.ext'; simpa using ht
        have hop : ∀ x, x ∈ c.args → dn m (ρ x) = some (ρ' x) := fun x hx => hd x (by simp [ho, Op.operands, Call.operands, hc, hx])
        obtain ⟨nx, w', m', H', h1, h2⟩ := (evLen_spec (ty := o.type) h hf hv (hop a (by simp [ea]))).next
        refine ⟨nx, w', m', H', ?_, h2⟩
        rw [run_builtin ho hc, ea, et, ← h1]
        simp [builtin]
    · rename_i a b t u hc ha ht
      have ea : c.args = #[a, b] := by apply Array.ext'; simpa using ha
      have et : c.argTypes = #[t, u] := by apply Array.ext'; simpa using ht
      have hop : ∀ x, x ∈ c.args → dn m (ρ x) = some (ρ' x) := fun x hx => hd x (by simp [ho, Op.operands, Call.operands, hc, hx])
      obtain ⟨nx, w', m', H', h1, h2⟩ := (evCopy_spec (u := u) (ty := o.type) h hf hv (hop a (by simp [ea])) (hop b (by simp [ea]))).next
      refine ⟨nx, w', m', H', ?_, h2⟩
      rw [run_builtin ho hc, ea, et, ← h1]
      simp [builtin]
    · rename_i a b t u hc ha ht
      split at h
      · exact evPure_spec h hv hd
      · have ea : c.args = #[a, b] := by apply Array.ext'; simpa using ha
        have et : c.argTypes = #[t, u] := by apply Array.ext'; simpa using ht
        have hop : ∀ x, x ∈ c.args → dn m (ρ x) = some (ρ' x) := fun x hx => hd x (by simp [ho, Op.operands, Call.operands, hc, hx])
        obtain ⟨nx, w', m', H', h1, h2⟩ := (evDelete_spec (u := u) (ty := o.type) h hf hv (hop a (by simp [ea])) (hop b (by simp [ea]))).next
        refine ⟨nx, w', m', H', ?_, h2⟩
        rw [run_builtin ho hc, ea, et, ← h1]
        simp [builtin]
    · exact evPure_spec h hv hd
    · cases h
  case h_27 => exact evPure_spec h hv hd
  case h_28 => exact evPure_spec h hv hd
  case h_29 => cases h
end
end Go.Ev
namespace Go.Ev
open Go.RowKit
set_option linter.unusedSimpArgs false
set_option linter.unnecessarySimpa false
set_option linter.unusedVariables false

structure Mo (s s' : St) : Prop where
  nx : s.nx ≤ s'.nx
  ac : ∀ i, s.ac.testBit i = true → s'.ac.testBit i = true
  wr : ∀ i, s.wr.testBit i = true → s'.wr.testBit i = true
  kp : ∀ i, s'.wr.testBit i = false → (i < s.nx ∨ s'.nx ≤ i) → s'.hp.get i = s.hp.get i
  wa : (∀ i, s.wr.testBit i = true → s.ac.testBit i = true) → ∀ i, s'.wr.testBit i = true → s'.ac.testBit i = true
  wl : (∀ i, s.wr.testBit i = true → i < s.nx) → ∀ i, s'.wr.testBit i = true → i < s'.nx
theorem Mo.refl (s : St) : Mo s s := ⟨Nat.le_refl _, fun _ h => h, fun _ h => h, fun _ _ _ => rfl, fun h => h, fun h => h⟩
theorem Mo.trans {a b c : St} (h : Mo a b) (k : Mo b c) : Mo a c := by
  have n1 := h.nx
  have n2 := k.nx
  refine ⟨Nat.le_trans n1 n2, fun i e => k.ac i (h.ac i e), fun i e => k.wr i (h.wr i e), fun i e hi => ?_, fun e => k.wa (h.wa e), fun e => k.wl (h.wl e)⟩
  have h1 : b.wr.testBit i = false := by
    cases e' : b.wr.testBit i with
    | false => rfl
    | true => rw [k.wr i e'] at e; cases e
  rw [k.kp i e (by omega), h.kp i h1 (by omega)]
theorem Mo.fits {FP : Nat → Prop} {n0 hi : Nat} {s s' : St} (h : Mo s s') (hf : Fits FP n0 hi s') : Fits FP n0 hi s := ⟨Nat.le_trans h.nx hf.1, fun i e hi => hf.2 i (h.ac i e) hi⟩
section
variable {s s' : St} {P : Program} {v : Value}
theorem look_mo {id : Nat} {ro : RO} (h : s.look id = some (ro, s')) : Mo s s' := by
  unfold St.look at h
  split at h
  · obtain ⟨o, ho, he⟩ := Option.map_eq_some_iff.1 h
    obtain ⟨rfl, rfl⟩ := Prod.mk.inj he
    have hb : ∀ i, s.ac.testBit i = true → (s.ac ||| 2 ^ id).testBit i = true := fun i e => by rw [bit_or, e]; rfl
    exact ⟨Nat.le_refl _, hb, fun _ e => e, fun _ _ _ => rfl, fun e i k => hb i (e i k), fun e => e⟩
  · cases h
theorem put_mo {id : Nat} {ro : RO} (h : s.put id ro = some s') : Mo s s' := by
  unfold St.put at h
  split at h
  · rename_i hlt
    simp only [Bool.and_eq_true, blt_iff] at hlt
    cases h
    have hb : ∀ i, s.ac.testBit i = true → (s.ac ||| 2 ^ id).testBit i = true := fun i e => by rw [bit_or, e]; rfl
    have hw : ∀ i, s.wr.testBit i = true → (s.wr ||| 2 ^ id).testBit i = true := fun i e => by rw [bit_or, e]; rfl
    have hid : id + 1 < 2 ^ 40 := by
      have h1 := hlt.1
      have h2 := hlt.2
      have h3 : top = 1000000 := rfl
      omega
    refine ⟨Nat.le_refl _, hb, hw, fun i e _ => ?_, fun e i k => ?_, fun e i k => ?_⟩
    · have e : (s.wr ||| 2 ^ id).testBit i = false := e
      rw [bit_or] at e
      show (Tr.set 40 s.hp id ro).get i = _
      rw [Tr.get_set _ _ _ _ _ hid, if_neg]
      intro hi
      subst hi
      simp at e
    · have k : (s.wr ||| 2 ^ id).testBit i = true := k
      show (s.ac ||| 2 ^ id).testBit i = true
      rw [bit_or, Bool.or_eq_true] at k ⊢
      exact k.imp (e i) (fun h => h)
    · have k : (s.wr ||| 2 ^ id).testBit i = true := k
      show i < s.nx
      rw [bit_or, Bool.or_eq_true] at k
      rcases k with k | k
      · exact e i k
      · have := of_decide_eq_true k
        omega
  · cases h
theorem new_mo {ro : RO} (h : s.new ro = some s') : Mo s s' := by
  unfold St.new at h
  split at h
  · rename_i hlt
    have hlt : s.nx < top := blt_iff.1 hlt
    cases h
    have hid : s.nx + 1 < 2 ^ 40 := by
      have h3 : top = 1000000 := rfl
      omega
    refine ⟨Nat.le_succ _, fun i e => e, fun i e => e, fun i _ hi => ?_, fun e => e, fun e i k => Nat.lt_succ_of_lt (e i k)⟩
    show (Tr.set 40 s.hp s.nx ro).get i = _
    have hi : i < s.nx ∨ s.nx + 1 ≤ i := hi
    rw [Tr.get_set _ _ _ _ _ hid, if_neg (by omega)]
  · cases h
theorem map_mo {α : Type} {x : Option α} {f : α → Value × St} {g : α → St} (h : x.map f = some (v, s')) (hg : ∀ a, (f a).2 = g a) (hm : ∀ a, x = some a → Mo s (g a)) : Mo s s' := by
  obtain ⟨a, ha, he⟩ := Option.map_eq_some_iff.1 h
  have := congrArg Prod.snd he
  rw [hg] at this
  simp only at this
  subst this
  exact hm a ha
theorem rd_mo {a : Addr} {n : Nat} {l : List Value} (h : rd s a n = some (l, s')) : Mo s s' := by
  unfold rd at h
  split at h
  · cases h
  · split at h
    · rename_i hl
      split at h
      · cases h; exact look_mo hl
      · cases h
    · cases h
theorem evAlloc_mo {e : TypeId} (h : evAlloc P e s = some (v, s')) : Mo s s' := by
  unfold evAlloc at h
  split at h
  · split at h
    · split at h
      · obtain ⟨a, ha, he⟩ := Option.map_eq_some_iff.1 h
        cases he; exact new_mo ha
      · cases h
    · cases h
  · cases h
theorem evBox_mo {e : TypeId} {x : Value} (h : evBox e x s = some (v, s')) : Mo s s' := by
  unfold evBox at h
  split at h
  · cases h
  · obtain ⟨a, ha, he⟩ := Option.map_eq_some_iff.1 h
    cases he; exact new_mo ha
theorem evLoad_mo {t : TypeId} {x : Value} (h : evLoad P t x s = some (v, s')) : Mo s s' := by
  unfold evLoad at h
  split at h
  · split at h
    · obtain ⟨a, ha, he⟩ := Option.map_eq_some_iff.1 h
      cases he; exact rd_mo (l := a.1) ha
    · split at h
      · rename_i hr
        cases h; exact rd_mo hr
      · cases h
  · cases h
theorem evStore_mo {t : TypeId} {a x : Value} (h : evStore P t a x s = some (v, s')) : Mo s s' := by
  unfold evStore at h
  split at h
  · split at h
    · cases h
    · split at h
      · cases h
      · split at h
        · split at h
          · rename_i hl
            split at h
            · obtain ⟨a, ha, he⟩ := Option.map_eq_some_iff.1 h
              cases he; exact (look_mo hl).trans (put_mo ha)
            · cases h
          · cases h
        · cases h
  · cases h
theorem evBuildSlice_mo {t : TypeId} {n : Nat} {ps : Array (Nat × Operand)} {ρ : Operand → Value} (h : evBuildSlice P t n ps ρ s = some (v, s')) : Mo s s' := by
  unfold evBuildSlice at h
  split at h
  · split at h
    · split at h
      · split at h
        · split at h
          · obtain ⟨a, ha, he⟩ := Option.map_eq_some_iff.1 h
            cases he; exact new_mo ha
          · cases h
        · cases h
      · cases h
    · cases h
  · cases h
theorem evMakeSlice_mo {t : TypeId} {x y : Value} (h : evMakeSlice P t x y s = some (v, s')) : Mo s s' := by
  unfold evMakeSlice at h
  split at h
  · split at h
    · split at h
      · split at h
        · obtain ⟨a, ha, he⟩ := Option.map_eq_some_iff.1 h
          cases he; exact new_mo ha
        · cases h
      · cases h
    · cases h
  · cases h
theorem evAppend_mo {t : TypeId} {x y : Value} (h : evAppend P t x y s = some (v, s')) : Mo s s' := by
  unfold evAppend at h
  split at h
  · split at h
    · split at h
      · split at h
        · split at h
          · rename_i hr
            split at h
            · split at h
              · obtain ⟨a, ha, he⟩ := Option.map_eq_some_iff.1 h
                cases he; exact (rd_mo hr).trans (new_mo ha)
              · cases h
            · split at h
              · cases h
              · split at h
                · rename_i hl
                  split at h
                  · split at h
                    · rename_i hp
                      obtain ⟨a, ha, he⟩ := Option.map_eq_some_iff.1 h
                      cases he; exact (((rd_mo hr).trans (look_mo hl)).trans (put_mo hp)).trans (new_mo ha)
                    · cases h
                  · cases h
                · cases h
            · cases h
          · cases h
        · cases h
      · cases h
    · cases h
  · cases h
theorem evLen_mo {t : TypeId} {x : Value} (h : evLen P t x s = some (v, s')) : Mo s s' := by
  unfold evLen at h
  split at h
  · cases h; exact Mo.refl _
  · split at h
    · rename_i hl
      cases h; exact look_mo hl
    · cases h
  · cases h
theorem evCopy_mo {t : TypeId} {x y : Value} (h : evCopy P t x y s = some (v, s')) : Mo s s' := by
  unfold evCopy at h
  split at h
  · split at h
    · split at h
      · rename_i hr
        split at h
        · rename_i hl
          split at h
          · obtain ⟨a, ha, he⟩ := Option.map_eq_some_iff.1 h
            cases he; exact ((rd_mo hr).trans (look_mo hl)).trans (put_mo ha)
          · cases h
        · cases h
      · cases h
    · cases h
  · cases h
theorem evMakeMap_mo (h : evMakeMap s = some (v, s')) : Mo s s' := by
  obtain ⟨a, ha, he⟩ := Option.map_eq_some_iff.1 h
  cases he; exact new_mo ha
theorem evLookup_mo {t : TypeId} {x k : Value} {ok : Bool} (h : evLookup P t x k ok s = some (v, s')) : Mo s s' := by
  unfold evLookup at h
  split at h
  · split at h
    · rename_i hl
      split at h
      · split at h
        · cases h; exact look_mo hl
        · split at h
          · split at h
            · split at h
              · cases h; exact look_mo hl
              · cases h
            · cases h
          · cases h
        · cases h
      · cases h
    · cases h
  · cases h
theorem evMapUpdate_mo {t : TypeId} {x k y : Value} (h : evMapUpdate P t x k y s = some (v, s')) : Mo s s' := by
  unfold evMapUpdate at h
  split at h
  · split at h
    · rename_i hl
      split at h
      · split at h
        · split at h
          · split at h
            · obtain ⟨a, ha, he⟩ := Option.map_eq_some_iff.1 h
              cases he; exact (look_mo hl).trans (put_mo ha)
            · cases h
          · cases h
        · obtain ⟨a, ha, he⟩ := Option.map_eq_some_iff.1 h
          cases he; exact (look_mo hl).trans (put_mo ha)
        · cases h
      · cases h
    · cases h
  · cases h
theorem evDelete_mo {t : TypeId} {x k : Value} (h : evDelete P t x k s = some (v, s')) : Mo s s' := by
  unfold evDelete at h
  split at h
  · split at h
    · rename_i hl
      split at h
      · split at h
        · obtain ⟨a, ha, he⟩ := Option.map_eq_some_iff.1 h
          cases he; exact (look_mo hl).trans (put_mo ha)
        · obtain ⟨a, ha, he⟩ := Option.map_eq_some_iff.1 h
          cases he; exact (look_mo hl).trans (put_mo ha)
        · cases h
      · cases h
    · cases h
  · cases h
theorem evPure_mo {o : Oper} {ρ : Operand → Value} (h : evPure P o ρ s = some (v, s')) : Mo s s' := by
  unfold evPure at h
  split at h
  · cases h
  · split at h
    · split at h
      · split at h
        · cases h; exact Mo.refl _
        · cases h
      · cases h; exact Mo.refl _
      · cases h
    · cases h
theorem wrapV_mo {x : Option Value} (h : wrapV x s = some (v, s')) : Mo s s' := by
  obtain ⟨_, rfl⟩ := wrapV_some h
  exact Mo.refl _
theorem evOp_mo {o : Oper} {ρ : Operand → Value} (h : evOp P o ρ s = some (v, s')) : Mo s s' := by
  unfold evOp at h
  split at h
  case h_1 => cases h; exact Mo.refl _
  case h_2 => cases h; exact Mo.refl _
  case h_3 =>
    split at h
    · cases h; exact Mo.refl _
    · cases h
  case h_4 => exact evAlloc_mo h
  case h_5 => exact evBox_mo h
  case h_6 => exact evLoad_mo h
  case h_7 => exact evStore_mo h
  case h_8 =>
    split at h
    · cases h; exact Mo.refl _
    · exact evPure_mo h
  case h_9 => exact wrapV_mo h
  case h_10 => exact wrapV_mo h
  case h_11 =>
    split at h
    · exact evPure_mo h
    · exact wrapV_mo h
  case h_12 => exact wrapV_mo h
  case h_13 => exact evBuildSlice_mo h
  case h_14 => exact evMakeSlice_mo h
  case h_15 => exact wrapV_mo h
  case h_16 =>
    split at h
    · exact evPure_mo h
    · exact wrapV_mo h
  case h_17 => exact wrapV_mo h
  case h_18 => exact wrapV_mo h
  case h_19 =>
    split at h
    · exact evMakeMap_mo h
    · cases h
  case h_20 =>
    split at h
    · exact evPure_mo h
    · exact evLookup_mo h
  case h_21 => exact evMapUpdate_mo h
  case h_22 => exact evMapUpdate_mo h
  case h_23 =>
    split at h
    · exact evPure_mo h
    · exact wrapV_mo h
  case h_24 =>
    split at h
    · exact evPure_mo h
    · exact wrapV_mo h
  case h_25 =>
    split at h
    · exact evPure_mo h
    · exact wrapV_mo h
  case h_26 =>
    split at h
    · split at h
      · exact evAppend_mo h
      · cases h
    · split at h
      · exact evPure_mo h
      · exact evLen_mo h
    · exact evCopy_mo h
    · split at h
      · exact evPure_mo h
      · exact evDelete_mo h
    · exact evPure_mo h
    · cases h
  case h_27 => exact evPure_mo h
  case h_28 => exact evPure_mo h
  case h_29 => cases h
end

/-- a function's slots -/
structure Fr where
  tm : Tr Value
  args : List Value
  n : Nat
def Fr.slot (fr : Fr) (t : Nat) : Value :=
  match fr.tm.get t with
  | some v => v
  | none => match fr.args[t]? with
    | some v => v
    | none => undef
def Fr.put (fr : Fr) (d : Option Tmp) (v : Value) : Option Fr :=
  match d with
  | none => some fr
  | some t => if Nat.blt t fr.n && Nat.blt t top then some { fr with tm := Tr.set 40 fr.tm t v } else none
def evalO (fr : Fr) : Operand → Value
  | .tmp t => fr.slot t
  | .const v => v
  | .global _ => undef
  | .func f => .func (.func f) #[] #[]
def okX : Operand → Bool
  | .tmp _ => true
  | .const v => cl v
  | .global _ => false
  | .func _ => true
structure TR (m : Mu) (fr : Fr) (a : Act) : Prop where
  size : a.tmps.size = fr.n
  defers : a.defers = []
  at_ : ∀ t, dn m (fr.slot t) = some (a.tmps.getD t undef)
theorem TR.mono {m m' : Mu} {fr : Fr} {a : Act} (h : TR m fr a) (hm : Le m m') : TR m' fr a := ⟨h.size, h.defers, fun t => dn_mono hm (h.at_ t)⟩
theorem TR.eval {m : Mu} {fr : Fr} {a : Act} (h : TR m fr a) {x : Operand} (hx : okX x = true) : dn m (evalO fr x) = some (a.eval x) := by
  cases x with
  | tmp t => exact h.at_ t
  | const v => exact cl_dn hx m
  | global g => cases hx
  | func f => rfl
theorem TR.put {m : Mu} {fr fr' : Fr} {a : Act} {v v' : Value} (h : TR m fr a) {d : Option Tmp} (hp : fr.put d v = some fr') (hv : dn m v = some v') : TR m fr' (a.put d v') := by
  unfold Fr.put at hp
  cases d with
  | none => cases hp; exact h
  | some t =>
    simp only at hp
    split at hp
    · rename_i hlt
      simp only [Bool.and_eq_true, blt_iff] at hlt
      cases hp
      have hid : @LT.lt Nat _ (@HAdd.hAdd Nat Nat Nat _ t 1) ((2 : Nat) ^ 40) := by
        have h1 := hlt.2
        have h2 : top = 1000000 := rfl
        omega
      refine ⟨by simp [Act.put, h.size], h.defers, fun u => ?_⟩
      unfold Fr.slot
      rw [Tr.get_set _ _ _ _ _ hid]
      by_cases hu : u = t
      · subst hu
        have : u < a.tmps.size := by rw [h.size]; exact hlt.1
        simp [Act.put, this, hv]
      · rw [if_neg hu]
        have := h.at_ u
        unfold Fr.slot at this
        rw [this]
        have hne : t ≠ u := fun e => hu e.symm
        simp [Act.put, Array.getD_eq_getD_getElem?, Array.getElem?_setIfInBounds_ne hne]
    · cases hp
theorem dn_bool {m : Mu} {v : Value} {b : Bool} (h : dn m v = some (.bool b)) : v = .bool b := by
  cases v with
  | bool c => cases h; rfl
  | pointer a => cases a with
    | none => cases h
    | some a => obtain ⟨p, _, e⟩ := dn_ptr h; cases e
  | slice a n c => cases a with
    | none => cases h
    | some a => obtain ⟨p, _, e⟩ := dn_slice h; cases e
  | map a => cases a with
    | none => cases h
    | some a => obtain ⟨p, _, e⟩ := dn_mapv h; cases e
  | chan a => cases a <;> cases h
  | func fn a c =>
    have h : dn1 m (.func fn a c) = some (.bool b) := h
    simp only [dn1] at h
    split at h <;> cases h
  | iface t v => obtain ⟨p, _, e⟩ := Option.map_eq_some_iff.1 (show (dn0 m v).map _ = some (Value.bool b) from h); cases e
  | agg cs => obtain ⟨p, _, e⟩ := Option.map_eq_some_iff.1 (show (dnL (dn1 m) cs.toList).map _ = some (Value.bool b) from h); cases e
  | tuple vs => obtain ⟨p, _, e⟩ := Option.map_eq_some_iff.1 (show (dnL (dn2 m) vs.toList).map _ = some (Value.bool b) from h); cases e
  | _ => cases h
def evYield (ops : Array Oper) (fr : Fr) (j : Nat) : Option Bool :=
  match (ops.toList[j]?).bind (·.dst) with
  | some d => match fr.slot d with
    | .bool b => some b
    | _ => none
  | none => none
def evWanted (ops : Array Oper) (fr : Fr) (o : Oper) : Bool :=
  match o.guard with
  | none => true
  | some (j, want) => evYield ops fr j == some want
theorem yield_eq {m : Mu} {fr : Fr} {a : Act} (h : TR m fr a) (ops : Array Oper) (j : Nat) : yielded ops a.tmps j = evYield ops fr j := by
  unfold yielded evYield
  rw [Array.getElem?_toList]
  cases hd : (ops[j]?).bind (·.dst) with
  | none => rfl
  | some d =>
    simp only [Option.bind_some]
    have hs := h.at_ d
    rw [Array.getD_eq_getD_getElem?] at hs
    cases ht : a.tmps[d]? with
    | none =>
      rw [ht] at hs
      simp only [Option.getD_none] at hs
      cases hx : fr.slot d with
      | bool b => rw [hx] at hs; cases hs
      | _ => rfl
    | some v' =>
      rw [ht] at hs
      simp only [Option.getD_some] at hs
      cases v' with
      | bool b => rw [dn_bool hs]
      | _ =>
        cases hx : fr.slot d with
        | bool b => rw [hx] at hs; cases hs
        | _ => rfl
theorem wanted_eq {m : Mu} {fr : Fr} {a : Act} (h : TR m fr a) (ops : Array Oper) (o : Oper) : Region.wanted o (yielded ops a.tmps) = evWanted ops fr o := by
  unfold Region.wanted evWanted
  cases o.guard with
  | none => rfl
  | some g => obtain ⟨j, want⟩ := g; simp only [yield_eq h]
end Go.Ev
namespace Go.Ev
open Go.RowKit
set_option linter.unusedSimpArgs false
set_option linter.unnecessarySimpa false
set_option linter.unusedVariables false

def Ret (FP : Nat → Prop) (n0 hi B : Nat) (m : Mu) (s : St) (H : Nat → Option RO) (w : World) (v : Value) (s' : St) : Ending → World → Prop :=
  fun e w' => ∃ v' m' H', e = .returned v' ∧ dn m' v = some v' ∧ Inv FP n0 hi B m' s' H' w' ∧ Ste B m s H w m' s' H' w'
abbrev Callee := FuncId → List Value → St → Option (Value × St)
structure CallOK (P : Program) (call : Callee) : Prop where
  mo : ∀ {g args s v s'}, call g args s = some (v, s') → Mo s s'
  fn : ∀ {g args s v s'}, call g args s = some (v, s') → ∃ fn : Func, P.funcs[g]? = some fn ∧ (fn.name == "runtime.NumGoroutine") = false ∧ fn.body.isNone = false
  sp : ∀ {FP : Nat → Prop} {n0 hi B : Nat} {m : Mu} {s s' : St} {H : Nat → Option RO} {w : World} {g : FuncId} {args args' : List Value} {v : Value}, call g args s = some (v, s') → Fits FP n0 hi s' → Inv FP n0 hi B m s H w →
    dnL (dn m) args = some args' → Calls P g args'.toArray w (Ret FP n0 hi B m s H w v s')
def evStep (P : Program) (call : Callee) (o : Oper) (fr : Fr) (s : St) : Option (Value × St) :=
  match o.op with
  | .call c => match c.callee with
    | .value f => match evalO fr f with
      | .func (.func g) a b => call g (a.toList ++ c.args.toList.map (evalO fr) ++ b.toList) s
      | _ => none
    | _ => evOp P o (evalO fr) s
  | _ => evOp P o (evalO fr) s
section
variable {FP : Nat → Prop} {n0 hi B : Nat} {m : Mu} {s s' : St} {H : Nat → Option RO} {w : World} {P : Program} {call : Callee} {o : Oper} {fr fr' : Fr} {a : Act} {v : Value}
theorem evStep_mo (hc : CallOK P call) (h : evStep P call o fr s = some (v, s')) : Mo s s' := by
  unfold evStep at h
  split at h
  · split at h
    · split at h
      · exact hc.mo h
      · cases h
    · exact evOp_mo h
  · exact evOp_mo h
theorem dn_of_dn0 {v v' : Value} (h : dn0 m v = some v') : dn m v = some v' := by
  apply dn_of_dn1
  unfold dn1
  split
  · simp [dn0] at h
  · simp [dn0] at h
  · exact h
theorem map_dn (xs : List Operand) (hd : ∀ x ∈ xs, dn m (evalO fr x) = some (a.eval x)) : dnL (dn m) (xs.map (evalO fr)) = some (xs.map a.eval) := by
  rw [dnL_iff, List.map_map, List.map_map]
  exact List.map_congr_left hd
theorem evStep_wp (hc : CallOK P call) (h : evStep P call o fr s = some (v, s')) (hf : Fits FP n0 hi s') (hv : Inv FP n0 hi B m s H w) (hd : ∀ x ∈ o.op.operands, dn m (evalO fr x) = some (a.eval x))
    {K : Act → World → Prop} {Q : Exit → Act → World → Prop} (hK : ∀ v' w' m' H', dn m' v = some v' → Inv FP n0 hi B m' s' H' w' → Ste B m s H w m' s' H' w' → K (a.put o.dst v') w') : o.wp P a w K Q := by
  have plain : evOp P o (evalO fr) s = some (v, s') → o.wp P a w K Q := by
    intro h
    obtain ⟨nx, w', m', H', h1, h2, h3, h4⟩ := evOp_spec (ρ' := a.eval) h hf hv hd
    unfold Oper.wp
    rw [h1]
    rcases h2 with ⟨v', rfl, h5⟩ | ⟨rfl, rfl⟩
    · rw [Oper.upon_value]; exact hK v' w' m' H' h5 h3 h4
    · rw [Oper.upon_skip]; exact hK undef w' m' H' rfl h3 h4
  unfold evStep at h
  split at h
  · rename_i c ho
    split at h
    · rename_i f hcal
      split at h
      · rename_i g x y hfn
        have hmem : ∀ z, z ∈ c.args → dn m (evalO fr z) = some (a.eval z) := fun z hz => hd z (by simp [ho, Op.operands, Call.operands, hcal, hz])
        have hff := hd f (by simp [ho, Op.operands, Call.operands, hcal])
        rw [hfn] at hff
        have hff : dn1 m (.func (.func g) x y) = some (a.eval f) := hff
        simp only [dn1] at hff
        split at hff
        · rename_i x' y' hx hy
          have he : a.eval f = .func (.func g) x'.toArray y'.toArray := (Option.some.inj hff).symm
          obtain ⟨fn, hfn1, hfn2, hfn3⟩ := hc.fn h
          have hargs : dnL (dn m) (x.toList ++ c.args.toList.map (evalO fr) ++ y.toList) = some (x' ++ c.args.toList.map a.eval ++ y') :=
            dnL_append (dnL_append (dnL_mono (fun _ _ => dn_of_dn0) hx) (map_dn c.args.toList (fun z hz => hmem z (by simpa using hz)))) (dnL_mono (fun _ _ => dn_of_dn0) hy)
          have hcall := hc.sp h hf hv hargs
          have hrun : (execOp a.eval o).run P w = .ok (.enter g (x' ++ c.args.toList.map a.eval ++ y').toArray) w := by
            simp only [execOp, ho, resolve, hcal, he, Deferred.ofValue, Sem.run_bind, Sem.run_pure, Result.andThen_ok, invoke, callFunc]
            have hp : (program).run P w = .ok P w := rfl
            simp only [hp, Result.andThen_ok, hfn1, hfn2, hfn3, Bool.false_eq_true, if_false, Sem.run_pure]
            congr 2
            apply Array.ext'
            simp
          unfold Oper.wp
          rw [hrun, Oper.upon_enter]
          refine hcall.mono ?_
          rintro e w' ⟨v', m', H', rfl, h5, h6, h7⟩
          exact hK v' w' m' H' h5 h6 h7
        · cases hff
      · cases h
    · exact plain h
  · exact plain h

def evOps (P : Program) (call : Callee) (ops : Array Oper) : List Oper → Fr → St → Option (Fr × St)
  | [], fr, s => some (fr, s)
  | o :: rest, fr, s =>
    if evWanted ops fr o then
      match evStep P call o fr s with
      | some (v, s1) => match fr.put o.dst v with
        | some fr1 => evOps P call ops rest fr1 s1
        | none => none
      | none => none
    else match fr.put o.dst undef with
      | some fr1 => evOps P call ops rest fr1 s
      | none => none
def okOps (ops : List Oper) : Bool := ops.all fun o => o.op.operands.toList.all okX
theorem evOps_mo (hc : CallOK P call) (ops : Array Oper) : ∀ (l : List Oper) (fr : Fr) (s : St), evOps P call ops l fr s = some (fr', s') → Mo s s'
  | [], fr, s, h => by simp only [evOps] at h; cases h; exact Mo.refl _
  | o :: rest, fr, s, h => by
    simp only [evOps] at h
    split at h
    · split at h
      · rename_i hs
        split at h
        · exact (evStep_mo hc hs).trans (evOps_mo hc ops rest _ _ h)
        · cases h
      · cases h
    · split at h
      · exact evOps_mo hc ops rest _ _ h
      · cases h
theorem evOps_wp (hc : CallOK P call) (ops : Array Oper) {Q : Exit → Act → World → Prop} : ∀ (l : List Oper) (fr : Fr) (s : St) (a : Act) (m : Mu) (H : Nat → Option RO) (w : World), okOps l = true → evOps P call ops l fr s = some (fr', s') → Fits FP n0 hi s' → Inv FP n0 hi B m s H w → TR m fr a →
    (∀ a' w' m' H', TR m' fr' a' → Inv FP n0 hi B m' s' H' w' → Ste B m s H w m' s' H' w' → Q .normal a' w') → wpList P ops Q l a w
  | [], fr, s, a, m, H, w, _, h, _, hv, ht, hQ => by
    simp only [evOps] at h
    cases h
    exact hQ a w m H ht hv (Ste.refl _ _ _ _ _)
  | o :: rest, fr, s, a, m, H, w, hok, h, hf, hv, ht, hQ => by
    simp only [okOps, List.all_cons, Bool.and_eq_true] at hok
    simp only [evOps] at h
    unfold wpList
    rw [wanted_eq ht]
    split at h
    · rename_i hw
      rw [if_pos hw]
      left
      split at h
      · rename_i v1 s1 hs
        split at h
        · rename_i fr1 hp
          have hf1 := (evOps_mo hc ops rest _ _ h).fits hf
          have hx := hok.1
          simp only [List.all_eq_true] at hx
          refine evStep_wp hc hs hf1 hv (fun x hx' => ht.eval (hx x (by simpa using hx'))) ?_
          intro v' w' m' H' hd hv' hst
          refine evOps_wp hc ops rest fr1 s1 _ m' H' w' hok.2 h hf hv' ((ht.mono hst.ext).put hp hd) ?_
          intro a2 w2 m2 H2 t2 v2 st2
          exact hQ a2 w2 m2 H2 t2 v2 (hst.trans st2)
        · cases h
      · cases h
    · rename_i hw
      rw [if_neg hw]
      split at h
      · rename_i fr1 hp
        exact evOps_wp hc ops rest fr1 s _ m H w hok.2 h hf hv (ht.put hp rfl) hQ
      · cases h
end
end Go.Ev
namespace Go.Ev
open Go.RowKit
set_option linter.unusedSimpArgs false
set_option linter.unnecessarySimpa false
set_option linter.unusedVariables false

/-! ### places, and who writes them -/
/-- what stands at a place once the operations of S are done -/
def seen {V : Type} (σ : Nat → Nat → V) (W : Nat → Nat → Bool) (S : Nat → Bool) : Nat → Nat → V
  | 0, l => σ 0 l
  | k + 1, l => if S k && W k l then σ (k + 1) l else seen σ W S k l
structure Tidy {V : Type} (n : Nat) (σ : Nat → Nat → V) (W A pm : Nat → Nat → Bool) : Prop where
  keep : ∀ i l, i < n → W i l = false → σ (i + 1) l = σ i l
  sub : ∀ i l, i < n → W i l = true → A i l = true
  ord : ∀ i j l, i < j → j < n → (W i l = true ∧ A j l = true ∨ W j l = true ∧ A i l = true) → pm j i = true
section
variable {V : Type} {n : Nat} {σ : Nat → Nat → V} {W A pm : Nat → Nat → Bool} {S : Nat → Bool}
theorem seen_at (h : Tidy n σ W A pm) (hcl : ∀ k i, k < n → S k = true → pm k i = true → S i = true) {i : Nat} (hi : i < n) (hs : S i = false) (hp : ∀ j, pm i j = true → S j = true) {l : Nat} (hA : A i l = true) : seen σ W S n l = σ i l := by
  have h1 : ∀ k, k ≤ i → seen σ W S k l = σ k l := by
    intro k
    induction k with
    | zero => intro _; rfl
    | succ k ih =>
      intro hk
      simp only [seen]
      cases hW : W k l with
      | false => simp only [Bool.and_false, Bool.false_eq_true, if_false]; rw [ih (by omega), h.keep k l (by omega) hW]
      | true =>
        have : S k = true := hp k (h.ord k i l (by omega) hi (.inl ⟨hW, hA⟩))
        simp [this]
  have h2 : ∀ d, i + d ≤ n → seen σ W S (i + d) l = σ i l := by
    intro d
    induction d with
    | zero => intro _; exact h1 i (Nat.le_refl _)
    | succ d ih =>
      intro hd
      rw [← Nat.add_assoc]
      simp only [seen]
      have hno : (S (i + d) && W (i + d) l) = false := by
        cases hS : S (i + d) with
        | false => rfl
        | true =>
          cases hW : W (i + d) l with
          | false => rfl
          | true =>
            by_cases h0 : d = 0
            · subst h0; rw [Nat.add_zero, hs] at hS; cases hS
            · have := hcl (i + d) i (by omega) hS (h.ord i (i + d) l (by omega) (by omega) (.inr ⟨hW, hA⟩))
              rw [hs] at this; cases this
      simp only [hno, Bool.false_eq_true, if_false]
      exact ih (by omega)
  have := h2 (n - i) (by omega)
  rwa [show i + (n - i) = n by omega] at this
def with_ (S : Nat → Bool) (i : Nat) : Nat → Bool := fun k => S k || Nat.beq k i
theorem with_ne {i k : Nat} (h : k ≠ i) : with_ S i k = S k := by unfold with_; rw [beq_f h]; simp
theorem with_eq (i : Nat) : with_ S i i = true := by unfold with_; simp
theorem seen_with (h : Tidy n σ W A pm) (hcl : ∀ k i, k < n → S k = true → pm k i = true → S i = true) {i : Nat} (hi : i < n) (hs : S i = false) (l : Nat) : seen σ W (with_ S i) n l = if W i l = true then σ (i + 1) l else seen σ W S n l := by
  have h1 : ∀ k, k ≤ i → seen σ W (with_ S i) k l = seen σ W S k l := by
    intro k
    induction k with
    | zero => intro _; rfl
    | succ k ih =>
      intro hk
      simp only [seen]
      rw [with_ne (by omega), ih (by omega)]
  have h2 : ∀ d, i + 1 + d ≤ n → seen σ W (with_ S i) (i + 1 + d) l = if W i l = true then σ (i + 1) l else seen σ W S (i + 1 + d) l := by
    intro d
    induction d with
    | zero =>
      intro _
      simp only [Nat.add_zero, seen, with_eq, hs, Bool.true_and, Bool.false_and, Bool.false_eq_true, if_false]
      rw [h1 i (Nat.le_refl _)]
    | succ d ih =>
      intro hd
      rw [← Nat.add_assoc]
      simp only [seen]
      rw [with_ne (show i + 1 + d ≠ i by omega), ih (by omega)]
      by_cases hW : W i l = true
      · have hno : (S (i + 1 + d) && W (i + 1 + d) l) = false := by
          cases hS : S (i + 1 + d) with
          | false => rfl
          | true =>
            cases hW2 : W (i + 1 + d) l with
            | false => rfl
            | true =>
              have := hcl (i + 1 + d) i (by omega) hS (h.ord i (i + 1 + d) l (by omega) (by omega) (.inl ⟨hW, h.sub _ _ (by omega) hW2⟩))
              rw [hs] at this; cases this
        simp only [hno, Bool.false_eq_true, if_false, hW, if_true]
      · simp only [hW, Bool.false_eq_true, if_false]
  have := h2 (n - (i + 1)) (by omega)
  rwa [show i + 1 + (n - (i + 1)) = n by omega] at this
theorem seen_all (h : Tidy n σ W A pm) (hs : ∀ k, k < n → S k = true) (l : Nat) : seen σ W S n l = σ n l := by
  have : ∀ k, k ≤ n → seen σ W S k l = σ k l := by
    intro k
    induction k with
    | zero => intro _; rfl
    | succ k ih =>
      intro hk
      simp only [seen, hs k (by omega), Bool.true_and]
      cases hW : W k l with
      | true => simp
      | false => simp only [Bool.false_eq_true, if_false]; rw [ih (by omega), h.keep k l (by omega) hW]
  exact this n (Nat.le_refl _)
theorem seen_none {l : Nat} (hW : ∀ k, k < n → S k = true → W k l = true → False) : seen σ W S n l = σ 0 l := by
  have : ∀ k, k ≤ n → seen σ W S k l = σ 0 l := by
    intro k
    induction k with
    | zero => intro _; rfl
    | succ k ih =>
      intro hk
      simp only [seen]
      cases hs : S k with
      | false => simp only [Bool.false_and, Bool.false_eq_true, if_false]; exact ih (by omega)
      | true =>
        cases hw : W k l with
        | false => simp only [Bool.and_false, Bool.false_eq_true, if_false]; exact ih (by omega)
        | true => exact (hW k (by omega) hs hw).elim
  exact this n (Nat.le_refl _)
theorem seen_not {l : Nat} (hW : ∀ k, k < n → W k l = false) : seen σ W S n l = σ 0 l := by
  have : ∀ k, k ≤ n → seen σ W S k l = σ 0 l := by
    intro k
    induction k with
    | zero => intro _; rfl
    | succ k ih =>
      intro hk
      simp only [seen, hW k (by omega), Bool.and_false, Bool.false_eq_true, if_false]
      exact ih (by omega)
  exact this n (Nat.le_refl _)
end

/-! ### the run in the text's order -/
structure Rc where
  lo : Nat
  hi : Nat
  w : Nat
  a : Nat
def St.zero (s : St) : St := { hp := s.hp, nx := s.nx, ac := 0, wr := 0 }
def runD (P : Program) (call : Callee) (ops : Array Oper) : List Oper → Fr → St → Option (List Rc × Fr × St)
  | [], fr, s => some ([], fr, s.zero)
  | o :: rest, fr, s =>
    if evWanted ops fr o then
      match evStep P call o fr s.zero with
      | some (v, s1) => match fr.put o.dst v with
        | some fr1 => match runD P call ops rest fr1 s1 with
          | some (L, y) => some (⟨s.nx, s1.nx, s1.wr, s1.ac⟩ :: L, y)
          | none => none
        | none => none
      | none => none
    else match fr.put o.dst undef with
      | some fr1 => match runD P call ops rest fr1 s with
        | some (L, y) => some (⟨s.nx, s.nx, 0, 0⟩ :: L, y)
        | none => none
      | none => none
/-- what one operation of the run did -/
def Did1 (P : Program) (call : Callee) (ops : Array Oper) (o : Oper) (r : Rc) (fr fr' : Fr) (s s' : St) : Prop :=
  ∃ v s1, r = ⟨s.nx, s1.nx, s1.wr, s1.ac⟩ ∧ s' = s1.zero ∧ fr.put o.dst v = some fr' ∧
    ((evWanted ops fr o = true ∧ evStep P call o fr s = some (v, s1)) ∨ (evWanted ops fr o = false ∧ v = undef ∧ s1 = s))
theorem runD_spec {P : Program} {call : Callee} {ops : Array Oper} : ∀ (l : List Oper) (fr : Fr) (s : St) (L : List Rc) (fr' : Fr) (s' : St), runD P call ops l fr s = some (L, fr', s') →
    L.length = l.length ∧ ∃ (F : Nat → Fr) (T : Nat → St), F 0 = fr ∧ T 0 = s.zero ∧ F l.length = fr' ∧ T l.length = s' ∧
      ∀ i o, l[i]? = some o → ∃ r, L[i]? = some r ∧ Did1 P call ops o r (F i) (F (i + 1)) (T i) (T (i + 1))
  | [], fr, s, L, fr', s', h => by
    simp only [runD] at h
    cases h
    exact ⟨rfl, fun _ => fr, fun _ => s.zero, rfl, rfl, rfl, rfl, fun i o h => by simp at h⟩
  | o :: rest, fr, s, L, fr', s', h => by
    simp only [runD] at h
    split at h
    · rename_i hw
      split at h
      · rename_i v s1 hs
        split at h
        · rename_i fr1 hp
          split at h
          · rename_i L1 y hr
            cases h
            obtain ⟨hl, F, T, f0, t0, fn, tn, hall⟩ := runD_spec rest fr1 s1 L1 fr' s' hr
            refine ⟨by simp [hl], fun i => match i with | 0 => fr | i + 1 => F i, fun i => match i with | 0 => s.zero | i + 1 => T i, rfl, rfl, fn, tn, fun i o' hi => ?_⟩
            cases i with
            | zero =>
              simp at hi
              subst hi
              exact ⟨_, rfl, v, s1, rfl, t0, by simpa [f0] using hp, .inl ⟨hw, hs⟩⟩
            | succ i => exact hall i o' (by simpa using hi)
          · cases h
        · cases h
      · cases h
    · rename_i hw
      have hw : evWanted ops fr o = false := by simpa using hw
      split at h
      · rename_i fr1 hp
        split at h
        · rename_i L1 y hr
          cases h
          obtain ⟨hl, F, T, f0, t0, fn, tn, hall⟩ := runD_spec rest fr1 s L1 fr' s' hr
          refine ⟨by simp [hl], fun i => match i with | 0 => fr | i + 1 => F i, fun i => match i with | 0 => s.zero | i + 1 => T i, rfl, rfl, fn, tn, fun i o' hi => ?_⟩
          cases i with
          | zero =>
            simp at hi
            subst hi
            exact ⟨_, rfl, undef, s.zero, rfl, t0, by simpa [f0] using hp, .inr ⟨hw, rfl, rfl⟩⟩
          | succ i => exact hall i o' (by simpa using hi)
        · cases h
      · cases h

/-! ### what must be ordered -/
def maskX (x : Operand) : Nat :=
  match x with
  | .tmp t => 2 ^ t
  | _ => 0
def maskL : List Operand → Nat
  | [] => 0
  | x :: xs => maskX x ||| maskL xs
def tw (o : Oper) : Nat :=
  match o.dst with
  | some d => 2 ^ d
  | none => 0
def tr (ops : Array Oper) (o : Oper) : Nat :=
  maskL o.op.operands.toList ||| (match o.guard with
    | some (j, _) => match (ops.toList[j]?).bind (·.dst) with
      | some d => 2 ^ d
      | none => 0
    | none => 0)
theorem maskL_bit {t : Nat} : ∀ {xs : List Operand}, .tmp t ∈ xs → (maskL xs).testBit t = true
  | x :: xs, h => by
    simp only [maskL, Nat.testBit_or, Bool.or_eq_true]
    rcases List.mem_cons.1 h with rfl | h
    · left; simp [maskX, Nat.testBit_two_pow]
    · right; exact maskL_bit h
theorem tr_operand {ops : Array Oper} {o : Oper} {t : Nat} (h : .tmp t ∈ o.op.operands) : (tr ops o).testBit t = true := by
  unfold tr
  rw [Nat.testBit_or, maskL_bit (by simpa using h)]
  rfl
theorem tr_guard {ops : Array Oper} {o : Oper} {j d : Nat} {b : Bool} (h : o.guard = some (j, b)) (hd : (ops.toList[j]?).bind (·.dst) = some d) : (tr ops o).testBit d = true := by
  unfold tr
  rw [Nat.testBit_or, h]
  simp only [hd, Nat.testBit_two_pow, decide_true, Bool.or_true]
theorem tw_bit {o : Oper} {t : Nat} : (tw o).testBit t = true ↔ o.dst = some t := by
  unfold tw
  cases o.dst with
  | none => simp
  | some d => simp [Nat.testBit_two_pow]
def edgesM (acc : List Nat) : List Edge → Option Nat
  | [] => some 0
  | e :: es =>
    if Region.binds .any e then match acc[e.on]?, edgesM acc es with
      | some p, some r => some (2 ^ e.on ||| p ||| r)
      | _, _ => none
    else edgesM acc es
def pmsGo : List Oper → List Nat → Option (List Nat)
  | [], acc => some acc
  | o :: rest, acc => match edgesM acc o.after.toList with
    | some k => pmsGo rest (acc ++ [k])
    | none => none
def pms (ops : Array Oper) : Option (List Nat) := pmsGo ops.toList []
theorem edgesM_spec {acc : List Nat} : ∀ {es : List Edge} {k : Nat}, edgesM acc es = some k → (∀ e ∈ es, Region.binds .any e = true → e.on < acc.length) ∧
    ∀ j, k.testBit j = true → ∃ e ∈ es, Region.binds .any e = true ∧ (j = e.on ∨ ∃ p, acc[e.on]? = some p ∧ p.testBit j = true)
  | [], k, h => by
    simp only [edgesM] at h
    cases h
    exact ⟨fun e he => by simp at he, fun j hj => by simp at hj⟩
  | e :: es, k, h => by
    simp only [edgesM] at h
    split at h
    · rename_i hb
      split at h
      · rename_i p r hp hr
        cases h
        obtain ⟨h1, h2⟩ := edgesM_spec hr
        refine ⟨fun e' he' hb' => ?_, fun j hj => ?_⟩
        · rcases List.mem_cons.1 he' with rfl | he'
          · exact (List.getElem?_eq_some_iff.1 hp).1
          · exact h1 e' he' hb'
        · rw [Nat.testBit_or, Nat.testBit_or, Nat.testBit_two_pow, Bool.or_eq_true, Bool.or_eq_true] at hj
          rcases hj with (hj | hj) | hj
          · exact ⟨e, by simp, hb, .inl (of_decide_eq_true hj).symm⟩
          · exact ⟨e, by simp, hb, .inr ⟨p, hp, hj⟩⟩
          · obtain ⟨e', he', h3, h4⟩ := h2 j hj
            exact ⟨e', by simp [he'], h3, h4⟩
      · cases h
    · rename_i hb
      obtain ⟨h1, h2⟩ := edgesM_spec h
      refine ⟨fun e' he' hb' => ?_, fun j hj => ?_⟩
      · rcases List.mem_cons.1 he' with rfl | he'
        · exact absurd hb' hb
        · exact h1 e' he' hb'
      · obtain ⟨e', he', h3, h4⟩ := h2 j hj
        exact ⟨e', by simp [he'], h3, h4⟩
theorem pmsGo_spec : ∀ (l : List Oper) (acc : List Nat) (pm : List Nat), pmsGo l acc = some pm → pm.length = acc.length + l.length ∧ (∀ i, i < acc.length → pm[i]? = acc[i]?) ∧
    ∀ i o, l[i]? = some o → (∀ e ∈ o.after.toList, Region.binds .any e = true → e.on < acc.length + i) ∧
      ∃ k, pm[acc.length + i]? = some k ∧ ∀ j, k.testBit j = true → ∃ e ∈ o.after.toList, Region.binds .any e = true ∧ (j = e.on ∨ ∃ p, pm[e.on]? = some p ∧ p.testBit j = true)
  | [], acc, pm, h => by
    simp only [pmsGo] at h
    cases h
    exact ⟨rfl, fun _ _ => rfl, fun i o h => by simp at h⟩
  | o :: rest, acc, pm, h => by
    simp only [pmsGo] at h
    split at h
    · rename_i k hk
      obtain ⟨h1, h2, h3⟩ := pmsGo_spec rest (acc ++ [k]) pm h
      obtain ⟨e1, e2⟩ := edgesM_spec hk
      have hacc : ∀ i, i < acc.length → pm[i]? = acc[i]? := fun i hi => by
        rw [h2 i (by simp; omega), List.getElem?_append_left hi]
      refine ⟨by rw [h1]; simp; omega, hacc, fun i o' hi => ?_⟩
      cases i with
      | zero =>
        simp at hi
        subst hi
        refine ⟨fun e he hb => by simpa using e1 e he hb, k, ?_, fun j hj => ?_⟩
        · rw [Nat.add_zero, h2 acc.length (by simp)]; simp
        · obtain ⟨e, he, hb, hj'⟩ := e2 j hj
          refine ⟨e, he, hb, hj'.imp id ?_⟩
          rintro ⟨p, hp, hpj⟩
          exact ⟨p, by rw [hacc e.on (e1 e he hb)]; exact hp, hpj⟩
      | succ i =>
        have := h3 i o' (by simpa using hi)
        simpa [Nat.add_assoc, Nat.add_comm 1 i] using this
    · cases h
/-- each two of a list -/
def pairsT (x : Nat × Nat) (i : Nat) : List (Nat × Nat × Nat) → Bool
  | [] => true
  | y :: ys => (Nat.beq ((x.2 &&& (y.1 ||| y.2.1)) ||| (y.2.1 &&& x.1)) 0 || y.2.2.testBit i) && pairsT x i ys
def allT : List (Nat × Nat × Nat) → Nat → Bool
  | [], _ => true
  | x :: xs, i => pairsT (x.1, x.2.1) i xs && allT xs (i + 1)
theorem pairsT_spec {x : Nat × Nat} {i : Nat} : ∀ {l : List (Nat × Nat × Nat)}, pairsT x i l = true → ∀ (j : Nat) (y : Nat × Nat × Nat), l[j]? = some y → (Nat.beq ((x.2 &&& (y.1 ||| y.2.1)) ||| (y.2.1 &&& x.1)) 0 || y.2.2.testBit i) = true
  | [], _, j, y, h => by simp at h
  | z :: zs, h, j, y, hj => by
    simp only [pairsT, Bool.and_eq_true] at h
    cases j with
    | zero => simp at hj; subst hj; exact h.1
    | succ j => exact pairsT_spec h.2 j y (by simpa using hj)
theorem allT_spec : ∀ {l : List (Nat × Nat × Nat)} {b : Nat}, allT l b = true → ∀ (i j : Nat) (x y : Nat × Nat × Nat), i < j → l[i]? = some x → l[j]? = some y → (Nat.beq ((x.2.1 &&& (y.1 ||| y.2.1)) ||| (y.2.1 &&& x.1)) 0 || y.2.2.testBit (b + i)) = true
  | [], _, _, i, j, x, y, _, h, _ => by simp at h
  | z :: zs, b, h, i, j, x, y, hij, hi, hj => by
    simp only [allT, Bool.and_eq_true] at h
    cases j with
    | zero => omega
    | succ j =>
      have hj : zs[j]? = some y := by simpa using hj
      cases i with
      | zero =>
        simp at hi
        subst hi
        simpa using pairsT_spec h.1 j y hj
      | succ i =>
        have := allT_spec h.2 i j x y (by omega) (by simpa using hi) hj
        rwa [show b + 1 + i = b + (i + 1) by omega] at this
def zip3 : List Nat → List Nat → List Nat → List (Nat × Nat × Nat)
  | a :: xs, b :: ys, c :: zs => (a, b, c) :: zip3 xs ys zs
  | _, _, _ => []
theorem zip3_at : ∀ {xs ys zs : List Nat} {i a b c : Nat}, xs[i]? = some a → ys[i]? = some b → zs[i]? = some c → (zip3 xs ys zs)[i]? = some (a, b, c)
  | x :: xs, y :: ys, z :: zs, 0, _, _, _, h1, h2, h3 => by simp at h1 h2 h3; subst h1 h2 h3; rfl
  | x :: xs, y :: ys, z :: zs, i + 1, _, _, _, h1, h2, h3 => by
    simp only [List.getElem?_cons_succ] at h1 h2 h3
    show (zip3 xs ys zs)[i]? = _
    exact zip3_at (xs := xs) (ys := ys) (zs := zs) (i := i) h1 h2 h3
  | [], _, _, _, _, _, _, h1, _, _ => by simp at h1
  | _ :: _, [], _, _, _, _, _, _, h2, _ => by simp at h2
  | _ :: _, _ :: _, [], _, _, _, _, _, _, h3 => by simp at h3
def rng (a b : Nat) : Nat := (2 ^ (b - a) - 1) <<< a
theorem rng_bit {a b i : Nat} : (rng a b).testBit i = true ↔ a ≤ i ∧ i < b := by
  unfold rng
  rw [Nat.testBit_shiftLeft, Nat.testBit_two_pow_sub_one]
  simp
  omega
def wOf (r : Rc) : Nat := r.w ||| rng r.lo r.hi
def aOf (r : Rc) : Nat := r.a ||| rng r.lo r.hi
def okT (ops : Array Oper) (pm : List Nat) : Bool := allT (zip3 (ops.toList.map (tr ops)) (ops.toList.map tw) pm) 0
def okH (L : List Rc) (pm : List Nat) : Bool := L.all (fun r => Nat.beq (wOf r) 0) || allT (zip3 (L.map aOf) (L.map wOf) pm) 0
end Go.Ev
