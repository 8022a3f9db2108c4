/-
  An evaluator of closed runs, tenth part: what an operation looks at only grows; a list of operations in turn.
-/
import Derived.Test.YtgndpodeedjohaaEvI
import Derived.Tactics
namespace Go.Ev
open Go.RowKit
set_option linter.unusedSimpArgs false
set_option linter.unnecessarySimpa false
set_option linter.unusedVariables false

structure Mo (s s' : St) : Prop where
  nx : s.nx ≤ s'.nx
  ac : ∀ i, s.ac.testBit i = true → s'.ac.testBit i = true
  wr : ∀ i, s.wr.testBit i = true → s'.wr.testBit i = true
  kp : ∀ i, s'.wr.testBit i = false → (i < s.nx ∨ s'.nx ≤ i) → s'.hp.get i = s.hp.get i
  wa : (∀ i, s.wr.testBit i = true → s.ac.testBit i = true) → ∀ i, s'.wr.testBit i = true → s'.ac.testBit i = true
  wl : (∀ i, s.wr.testBit i = true → i < s.nx) → ∀ i, s'.wr.testBit i = true → i < s'.nx
theorem Mo.refl (s : St) : Mo s s := ⟨Nat.le_refl _, fun _ h => h, fun _ h => h, fun _ _ _ => rfl, fun h => h, fun h => h⟩
theorem Mo.trans {a b c : St} (h : Mo a b) (k : Mo b c) : Mo a c := by
  have n1 := h.nx
  have n2 := k.nx
  refine ⟨Nat.le_trans n1 n2, fun i e => k.ac i (h.ac i e), fun i e => k.wr i (h.wr i e), fun i e hi => ?_, fun e => k.wa (h.wa e), fun e => k.wl (h.wl e)⟩
  have h1 : b.wr.testBit i = false := by
    cases e' : b.wr.testBit i with
    | false => rfl
    | true => rw [k.wr i e'] at e; cases e
  rw [k.kp i e (by omega), h.kp i h1 (by omega)]
theorem Mo.fits {FP : Nat → Prop} {n0 hi : Nat} {s s' : St} (h : Mo s s') (hf : Fits FP n0 hi s') : Fits FP n0 hi s := ⟨Nat.le_trans h.nx hf.1, fun i e hi => hf.2 i (h.ac i e) hi⟩
section
variable {s s' : St} {P : Program} {v : Value}
theorem look_mo {id : Nat} {ro : RO} (h : s.look id = some (ro, s')) : Mo s s' := by
  unfold St.look at h
  split at h
  · obtain ⟨o, ho, he⟩ := Option.map_eq_some_iff.1 h
    obtain ⟨rfl, rfl⟩ := Prod.mk.inj he
    have hb : ∀ i, s.ac.testBit i = true → (s.ac ||| 2 ^ id).testBit i = true := fun i e => by rw [bit_or, e]; rfl
    exact ⟨Nat.le_refl _, hb, fun _ e => e, fun _ _ _ => rfl, fun e i k => hb i (e i k), fun e => e⟩
  · cases h
theorem put_mo {id : Nat} {ro : RO} (h : s.put id ro = some s') : Mo s s' := by
  unfold St.put at h
  split at h
  · rename_i hlt
    simp only [Bool.and_eq_true, blt_iff] at hlt
    cases h
    have hb : ∀ i, s.ac.testBit i = true → (s.ac ||| 2 ^ id).testBit i = true := fun i e => by rw [bit_or, e]; rfl
    have hw : ∀ i, s.wr.testBit i = true → (s.wr ||| 2 ^ id).testBit i = true := fun i e => by rw [bit_or, e]; rfl
    have hid : id + 1 < 2 ^ 40 := by
      have h1 := hlt.1
      have h2 := hlt.2
      have h3 : top = 1000000 := rfl
      omega
    refine ⟨Nat.le_refl _, hb, hw, fun i e _ => ?_, fun e i k => ?_, fun e i k => ?_⟩
    · have e : (s.wr ||| 2 ^ id).testBit i = false := e
      rw [bit_or] at e
      show (Tr.set 40 s.hp id ro).get i = _
      rw [Tr.get_set _ _ _ _ _ hid, if_neg]
      intro hi
      subst hi
      simp at e
    · have k : (s.wr ||| 2 ^ id).testBit i = true := k
      show (s.ac ||| 2 ^ id).testBit i = true
      rw [bit_or, Bool.or_eq_true] at k ⊢
      exact k.imp (e i) (fun h => h)
    · have k : (s.wr ||| 2 ^ id).testBit i = true := k
      show i < s.nx
      rw [bit_or, Bool.or_eq_true] at k
      rcases k with k | k
      · exact e i k
      · have := of_decide_eq_true k
        omega
  · cases h
theorem new_mo {ro : RO} (h : s.new ro = some s') : Mo s s' := by
  unfold St.new at h
  split at h
  · rename_i hlt
    have hlt : s.nx < top := blt_iff.1 hlt
    cases h
    have hid : s.nx + 1 < 2 ^ 40 := by
      have h3 : top = 1000000 := rfl
      omega
    refine ⟨Nat.le_succ _, fun i e => e, fun i e => e, fun i _ hi => ?_, fun e => e, fun e i k => Nat.lt_succ_of_lt (e i k)⟩
    show (Tr.set 40 s.hp s.nx ro).get i = _
    have hi : i < s.nx ∨ s.nx + 1 ≤ i := hi
    rw [Tr.get_set _ _ _ _ _ hid, if_neg (by omega)]
  · cases h
theorem map_mo {α : Type} {x : Option α} {f : α → Value × St} {g : α → St} (h : x.map f = some (v, s')) (hg : ∀ a, (f a).2 = g a) (hm : ∀ a, x = some a → Mo s (g a)) : Mo s s' := by
  obtain ⟨a, ha, he⟩ := Option.map_eq_some_iff.1 h
  have := congrArg Prod.snd he
  rw [hg] at this
  simp only at this
  subst this
  exact hm a ha
theorem rd_mo {a : Addr} {n : Nat} {l : List Value} (h : rd s a n = some (l, s')) : Mo s s' := by
  unfold rd at h
  split at h
  · cases h
  · split at h
    · rename_i hl
      split at h
      · cases h; exact look_mo hl
      · cases h
    · cases h
theorem evAlloc_mo {e : TypeId} (h : evAlloc P e s = some (v, s')) : Mo s s' := by
  unfold evAlloc at h
  split at h
  · split at h
    · split at h
      · obtain ⟨a, ha, he⟩ := Option.map_eq_some_iff.1 h
        cases he; exact new_mo ha
      · cases h
    · cases h
  · cases h
theorem evBox_mo {e : TypeId} {x : Value} (h : evBox e x s = some (v, s')) : Mo s s' := by
  unfold evBox at h
  split at h
  · cases h
  · obtain ⟨a, ha, he⟩ := Option.map_eq_some_iff.1 h
    cases he; exact new_mo ha
theorem evLoad_mo {t : TypeId} {x : Value} (h : evLoad P t x s = some (v, s')) : Mo s s' := by
  unfold evLoad at h
  split at h
  · split at h
    · obtain ⟨a, ha, he⟩ := Option.map_eq_some_iff.1 h
      cases he; exact rd_mo (l := a.1) ha
    · split at h
      · rename_i hr
        cases h; exact rd_mo hr
      · cases h
  · cases h
theorem evStore_mo {t : TypeId} {a x : Value} (h : evStore P t a x s = some (v, s')) : Mo s s' := by
  unfold evStore at h
  split at h
  · split at h
    · cases h
    · split at h
      · cases h
      · split at h
        · split at h
          · rename_i hl
            split at h
            · obtain ⟨a, ha, he⟩ := Option.map_eq_some_iff.1 h
              cases he; exact (look_mo hl).trans (put_mo ha)
            · cases h
          · cases h
        · cases h
  · cases h
theorem evBuildSlice_mo {t : TypeId} {n : Nat} {ps : Array (Nat × Operand)} {ρ : Operand → Value} (h : evBuildSlice P t n ps ρ s = some (v, s')) : Mo s s' := by
  unfold evBuildSlice at h
  split at h
  · split at h
    · split at h
      · split at h
        · split at h
          · obtain ⟨a, ha, he⟩ := Option.map_eq_some_iff.1 h
            cases he; exact new_mo ha
          · cases h
        · cases h
      · cases h
    · cases h
  · cases h
theorem evMakeSlice_mo {t : TypeId} {x y : Value} (h : evMakeSlice P t x y s = some (v, s')) : Mo s s' := by
  unfold evMakeSlice at h
  split at h
  · split at h
    · split at h
      · split at h
        · obtain ⟨a, ha, he⟩ := Option.map_eq_some_iff.1 h
          cases he; exact new_mo ha
        · cases h
      · cases h
    · cases h
  · cases h
theorem evAppend_mo {t : TypeId} {x y : Value} (h : evAppend P t x y s = some (v, s')) : Mo s s' := by
  unfold evAppend at h
  split at h
  · split at h
    · split at h
      · split at h
        · split at h
          · rename_i hr
            split at h
            · split at h
              · obtain ⟨a, ha, he⟩ := Option.map_eq_some_iff.1 h
                cases he; exact (rd_mo hr).trans (new_mo ha)
              · cases h
            · split at h
              · cases h
              · split at h
                · rename_i hl
                  split at h
                  · split at h
                    · rename_i hp
                      obtain ⟨a, ha, he⟩ := Option.map_eq_some_iff.1 h
                      cases he; exact (((rd_mo hr).trans (look_mo hl)).trans (put_mo hp)).trans (new_mo ha)
                    · cases h
                  · cases h
                · cases h
            · cases h
          · cases h
        · cases h
      · cases h
    · cases h
  · cases h
theorem evLen_mo {t : TypeId} {x : Value} (h : evLen P t x s = some (v, s')) : Mo s s' := by
  unfold evLen at h
  split at h
  · cases h; exact Mo.refl _
  · split at h
    · rename_i hl
      cases h; exact look_mo hl
    · cases h
  · cases h
theorem evCopy_mo {t : TypeId} {x y : Value} (h : evCopy P t x y s = some (v, s')) : Mo s s' := by
  unfold evCopy at h
  split at h
  · split at h
    · split at h
      · rename_i hr
        split at h
        · rename_i hl
          split at h
          · obtain ⟨a, ha, he⟩ := Option.map_eq_some_iff.1 h
            cases he; exact ((rd_mo hr).trans (look_mo hl)).trans (put_mo ha)
          · cases h
        · cases h
      · cases h
    · cases h
  · cases h
theorem evMakeMap_mo (h : evMakeMap s = some (v, s')) : Mo s s' := by
  obtain ⟨a, ha, he⟩ := Option.map_eq_some_iff.1 h
  cases he; exact new_mo ha
theorem evLookup_mo {t : TypeId} {x k : Value} {ok : Bool} (h : evLookup P t x k ok s = some (v, s')) : Mo s s' := by
  unfold evLookup at h
  split at h
  · split at h
    · rename_i hl
      split at h
      · split at h
        · cases h; exact look_mo hl
        · split at h
          · split at h
            · split at h
              · cases h; exact look_mo hl
              · cases h
            · cases h
          · cases h
        · cases h
      · cases h
    · cases h
  · cases h
theorem evMapUpdate_mo {t : TypeId} {x k y : Value} (h : evMapUpdate P t x k y s = some (v, s')) : Mo s s' := by
  unfold evMapUpdate at h
  split at h
  · split at h
    · rename_i hl
      split at h
      · split at h
        · split at h
          · split at h
            · obtain ⟨a, ha, he⟩ := Option.map_eq_some_iff.1 h
              cases he; exact (look_mo hl).trans (put_mo ha)
            · cases h
          · cases h
        · obtain ⟨a, ha, he⟩ := Option.map_eq_some_iff.1 h
          cases he; exact (look_mo hl).trans (put_mo ha)
        · cases h
      · cases h
    · cases h
  · cases h
theorem evDelete_mo {t : TypeId} {x k : Value} (h : evDelete P t x k s = some (v, s')) : Mo s s' := by
  unfold evDelete at h
  split at h
  · split at h
    · rename_i hl
      split at h
      · split at h
        · obtain ⟨a, ha, he⟩ := Option.map_eq_some_iff.1 h
          cases he; exact (look_mo hl).trans (put_mo ha)
        · obtain ⟨a, ha, he⟩ := Option.map_eq_some_iff.1 h
          cases he; exact (look_mo hl).trans (put_mo ha)
        · cases h
      · cases h
    · cases h
  · cases h
theorem evPure_mo {o : Oper} {ρ : Operand → Value} (h : evPure P o ρ s = some (v, s')) : Mo s s' := by
  unfold evPure at h
  split at h
  · cases h
  · split at h
    · split at h
      · split at h
        · cases h; exact Mo.refl _
        · cases h
      · cases h; exact Mo.refl _
      · cases h
    · cases h
theorem wrapV_mo {x : Option Value} (h : wrapV x s = some (v, s')) : Mo s s' := by
  obtain ⟨_, rfl⟩ := wrapV_some h
  exact Mo.refl _
theorem evOp_mo {o : Oper} {ρ : Operand → Value} (h : evOp P o ρ s = some (v, s')) : Mo s s' := by
  unfold evOp at h
  split at h
  case h_1 => cases h; exact Mo.refl _
  case h_2 => cases h; exact Mo.refl _
  case h_3 =>
    split at h
    · cases h; exact Mo.refl _
    · cases h
  case h_4 => exact evAlloc_mo h
  case h_5 => exact evBox_mo h
  case h_6 => exact evLoad_mo h
  case h_7 => exact evStore_mo h
  case h_8 =>
    split at h
    · cases h; exact Mo.refl _
    · exact evPure_mo h
  case h_9 => exact wrapV_mo h
  case h_10 => exact wrapV_mo h
  case h_11 =>
    split at h
    · exact evPure_mo h
    · exact wrapV_mo h
  case h_12 => exact wrapV_mo h
  case h_13 => exact evBuildSlice_mo h
  case h_14 => exact evMakeSlice_mo h
  case h_15 => exact wrapV_mo h
  case h_16 =>
    split at h
    · exact evPure_mo h
    · exact wrapV_mo h
  case h_17 => exact wrapV_mo h
  case h_18 => exact wrapV_mo h
  case h_19 =>
    split at h
    · exact evMakeMap_mo h
    · cases h
  case h_20 =>
    split at h
    · exact evPure_mo h
    · exact evLookup_mo h
  case h_21 => exact evMapUpdate_mo h
  case h_22 => exact evMapUpdate_mo h
  case h_23 =>
    split at h
    · exact evPure_mo h
    · exact wrapV_mo h
  case h_24 =>
    split at h
    · exact evPure_mo h
    · exact wrapV_mo h
  case h_25 =>
    split at h
    · exact evPure_mo h
    · exact wrapV_mo h
  case h_26 =>
    split at h
    · split at h
      · exact evAppend_mo h
      · cases h
    · split at h
      · exact evPure_mo h
      · exact evLen_mo h
    · exact evCopy_mo h
    · split at h
      · exact evPure_mo h
      · exact evDelete_mo h
    · exact evPure_mo h
    · cases h
  case h_27 => exact evPure_mo h
  case h_28 => exact evPure_mo h
  case h_29 => cases h
end

/-- a function's slots -/
structure Fr where
  tm : Tr Value
  args : List Value
  n : Nat
def Fr.slot (fr : Fr) (t : Nat) : Value :=
  match fr.tm.get t with
  | some v => v
  | none => match fr.args[t]? with
    | some v => v
    | none => undef
def Fr.put (fr : Fr) (d : Option Tmp) (v : Value) : Option Fr :=
  match d with
  | none => some fr
  | some t => if Nat.blt t fr.n && Nat.blt t top then some { fr with tm := Tr.set 40 fr.tm t v } else none
def evalO (fr : Fr) : Operand → Value
  | .tmp t => fr.slot t
  | .const v => v
  | .global _ => undef
  | .func f => .func (.func f) #[] #[]
def okX : Operand → Bool
  | .tmp _ => true
  | .const v => cl v
  | .global _ => false
  | .func _ => true
structure TR (m : Mu) (fr : Fr) (a : Act) : Prop where
  size : a.tmps.size = fr.n
  defers : a.defers = []
  at_ : ∀ t, dn m (fr.slot t) = some (a.tmps.getD t undef)
theorem TR.mono {m m' : Mu} {fr : Fr} {a : Act} (h : TR m fr a) (hm : Le m m') : TR m' fr a := ⟨h.size, h.defers, fun t => dn_mono hm (h.at_ t)⟩
theorem TR.eval {m : Mu} {fr : Fr} {a : Act} (h : TR m fr a) {x : Operand} (hx : okX x = true) : dn m (evalO fr x) = some (a.eval x) := by
  cases x with
  | tmp t => exact h.at_ t
  | const v => exact cl_dn hx m
  | global g => cases hx
  | func f => rfl
theorem TR.put {m : Mu} {fr fr' : Fr} {a : Act} {v v' : Value} (h : TR m fr a) {d : Option Tmp} (hp : fr.put d v = some fr') (hv : dn m v = some v') : TR m fr' (a.put d v') := by
  unfold Fr.put at hp
  cases d with
  | none => cases hp; exact h
  | some t =>
    simp only at hp
    split at hp
    · rename_i hlt
      simp only [Bool.and_eq_true, blt_iff] at hlt
      cases hp
      have hid : @LT.lt Nat _ (@HAdd.hAdd Nat Nat Nat _ t 1) ((2 : Nat) ^ 40) := by
        have h1 := hlt.2
        have h2 : top = 1000000 := rfl
        omega
      refine ⟨by simp [Act.put, h.size], h.defers, fun u => ?_⟩
      unfold Fr.slot
      rw [Tr.get_set _ _ _ _ _ hid]
      by_cases hu : u = t
      · subst hu
        have : u < a.tmps.size := by rw [h.size]; exact hlt.1
        simp [Act.put, this, hv]
      · rw [if_neg hu]
        have := h.at_ u
        unfold Fr.slot at this
        rw [this]
        have hne : t ≠ u := fun e => hu e.symm
        simp [Act.put, Array.getD_eq_getD_getElem?, Array.getElem?_setIfInBounds_ne hne]
    · cases hp
theorem dn_bool {m : Mu} {v : Value} {b : Bool} (h : dn m v = some (.bool b)) : v = .bool b := by
  cases v with
  | bool c => cases h; rfl
  | pointer a => cases a with
    | none => cases h
    | some a => obtain ⟨p, _, e⟩ := dn_ptr h; cases e
  | slice a n c => cases a with
    | none => cases h
    | some a => obtain ⟨p, _, e⟩ := dn_slice h; cases e
  | map a => cases a with
    | none => cases h
    | some a => obtain ⟨p, _, e⟩ := dn_mapv h; cases e
  | chan a => cases a <;> cases h
  | func fn a c =>
    have h : dn1 m (.func fn a c) = some (.bool b) := h
    simp only [dn1] at h
    split at h <;> cases h
  | iface t v => obtain ⟨p, _, e⟩ := Option.map_eq_some_iff.1 (show (dn0 m v).map _ = some (Value.bool b) from h); cases e
  | agg cs => obtain ⟨p, _, e⟩ := Option.map_eq_some_iff.1 (show (dnL (dn1 m) cs.toList).map _ = some (Value.bool b) from h); cases e
  | tuple vs => obtain ⟨p, _, e⟩ := Option.map_eq_some_iff.1 (show (dnL (dn2 m) vs.toList).map _ = some (Value.bool b) from h); cases e
  | _ => cases h
def evYield (ops : Array Oper) (fr : Fr) (j : Nat) : Option Bool :=
  match (ops.toList[j]?).bind (·.dst) with
  | some d => match fr.slot d with
    | .bool b => some b
    | _ => none
  | none => none
def evWanted (ops : Array Oper) (fr : Fr) (o : Oper) : Bool :=
  match o.guard with
  | none => true
  | some (j, want) => evYield ops fr j == some want
theorem yield_eq {m : Mu} {fr : Fr} {a : Act} (h : TR m fr a) (ops : Array Oper) (j : Nat) : yielded ops a.tmps j = evYield ops fr j := by
  unfold yielded evYield
  rw [Array.getElem?_toList]
  cases hd : (ops[j]?).bind (·.dst) with
  | none => rfl
  | some d =>
    simp only [Option.bind_some]
    have hs := h.at_ d
    rw [Array.getD_eq_getD_getElem?] at hs
    cases ht : a.tmps[d]? with
    | none =>
      rw [ht] at hs
      simp only [Option.getD_none] at hs
      cases hx : fr.slot d with
      | bool b => rw [hx] at hs; cases hs
      | _ => rfl
    | some v' =>
      rw [ht] at hs
      simp only [Option.getD_some] at hs
      cases v' with
      | bool b => rw [dn_bool hs]
      | _ =>
        cases hx : fr.slot d with
        | bool b => rw [hx] at hs; cases hs
        | _ => rfl
theorem wanted_eq {m : Mu} {fr : Fr} {a : Act} (h : TR m fr a) (ops : Array Oper) (o : Oper) : Region.wanted o (yielded ops a.tmps) = evWanted ops fr o := by
  unfold Region.wanted evWanted
  cases o.guard with
  | none => rfl
  | some g => obtain ⟨j, want⟩ := g; simp only [yield_eq h]
end Go.Ev
