/-
  An evaluator of closed runs, fifteenth part: code, and functions.
-/
import Derived.Test.YtgndpodeedjohaaEvN
import Derived.LoopN
import Derived.Scope
namespace Go.Ev
open Go.RowKit
set_option linter.unusedSimpArgs false
set_option linter.unnecessarySimpa false
set_option linter.unusedVariables false

theorem runD_mo {P : Program} {call : Callee} {ops : Array Oper} (hc : CallOK P call) : ∀ (l : List Oper) (fr : Fr) (s : St) (L : List Rc) (fr' : Fr) (s' : St), runD P call ops l fr s = some (L, fr', s') →
    s.nx ≤ s'.nx ∧ (∀ id, (orW L).testBit id = false → (id < s.nx ∨ s'.nx ≤ id) → s'.hp.get id = s.hp.get id) ∧ (∀ id, (orW L).testBit id = true → (orA L).testBit id = true ∧ id < s'.nx)
  | [], fr, s, L, fr', s', h => by
    simp only [runD] at h
    cases h
    exact ⟨Nat.le_refl _, fun _ _ _ => rfl, fun id h => by simp [orW] at h⟩
  | o :: rest, fr, s, L, fr', s', h => by
    simp only [runD] at h
    split at h
    · split at h
      · rename_i v s1 hs
        split at h
        · split at h
          · rename_i L1 y hr
            cases h
            have mo := evStep_mo hc hs
            have mo1 : s.nx ≤ s1.nx := mo.nx
            obtain ⟨h1, h2, h3⟩ := runD_mo hc rest _ s1 L1 fr' s' hr
            refine ⟨Nat.le_trans mo1 h1, fun id hw hid => ?_, fun id hw => ?_⟩
            · simp only [orW, Nat.testBit_or, Bool.or_eq_false_iff] at hw
              rw [h2 id hw.2 (by omega)]
              exact mo.kp id hw.1 (by show id < s.nx ∨ _; omega)
            · simp only [orW, orA, Nat.testBit_or, Bool.or_eq_true] at hw ⊢
              have nobit : ∀ j, s.zero.wr.testBit j = true → False := fun j hj => by simp [St.zero] at hj
              rcases hw with hw | hw
              · exact ⟨.inl (mo.wa (fun j hj => (nobit j hj).elim) _ hw), Nat.lt_of_lt_of_le (mo.wl (fun j hj => (nobit j hj).elim) _ hw) h1⟩
              · exact ⟨.inr (h3 id hw).1, (h3 id hw).2⟩
          · cases h
        · cases h
      · cases h
    · split at h
      · split at h
        · rename_i L1 y hr
          cases h
          obtain ⟨h1, h2, h3⟩ := runD_mo hc rest _ s L1 fr' s' hr
          refine ⟨h1, fun id hw hid => ?_, fun id hw => ?_⟩
          · simp only [orW, Nat.testBit_or, Bool.or_eq_false_iff] at hw
            exact h2 id hw.2 hid
          · simp only [orW, orA, Nat.testBit_or, Bool.or_eq_true, Nat.zero_testBit, Bool.false_eq_true, false_or] at hw ⊢
            exact h3 id hw
        · cases h
      · cases h
theorem evD_mo {P : Program} {call : Callee} {ops : Array Oper} {fr fr' : Fr} {s s' : St} (hc : CallOK P call) (h : evD P call ops fr s = some (fr', s')) : Mo s s' := by
  unfold evD at h
  split at h
  · split at h
    · split at h
      · split at h
        · rename_i L fr1 s1 hr
          split at h
          · cases h
            obtain ⟨h1, h2, h3⟩ := runD_mo hc _ _ _ _ _ _ hr
            refine ⟨h1, fun i e => ?_, fun i e => ?_, fun i e hi => ?_, fun e i k => ?_, fun e i k => ?_⟩
            · show (s.ac ||| orA L).testBit i = true
              rw [Nat.testBit_or, e]; rfl
            · show (s.wr ||| orW L).testBit i = true
              rw [Nat.testBit_or, e]; rfl
            · have e : (s.wr ||| orW L).testBit i = false := e
              rw [Nat.testBit_or, Bool.or_eq_false_iff] at e
              exact h2 i e.2 hi
            · have k : (s.wr ||| orW L).testBit i = true := k
              show (s.ac ||| orA L).testBit i = true
              rw [Nat.testBit_or, Bool.or_eq_true] at k ⊢
              exact k.imp (e i) (fun k => (h3 i k).1)
            · have k : (s.wr ||| orW L).testBit i = true := k
              show i < s1.nx
              rw [Nat.testBit_or, Bool.or_eq_true] at k
              rcases k with k | k
              · exact Nat.lt_of_lt_of_le (e i k) h1
              · exact (h3 i k).2
          · cases h
        · cases h
      · cases h
    · cases h
  · cases h

inductive Ex where
  | normal
  | exit (id : Nat)
  | ret
def Ex.to : Ex → Exit
  | .normal => .normal
  | .exit id => .exit id
  | .ret => .ret
def evRes (P : Program) (fr : Fr) : List ResultVar → St → Option (List Value × St)
  | [], s => some ([], s)
  | .tmp t :: rs, s => (evRes P fr rs s).map fun x => (fr.slot t :: x.1, x.2)
  | .cell a t :: rs, s => match evLoad P t (fr.slot a) s with
    | some (v, s1) => (evRes P fr rs s1).map fun x => (v :: x.1, x.2)
    | none => none
def resOf (vs : List Value) : Option Value :=
  match vs with
  | [v] => some v
  | vs => if vs.all noTup then some (.tuple vs.toArray) else none
def evF (P : Program) (run : Code → Fr → St → Option (Ex × Fr × St)) : Callee := fun g args s =>
  match P.funcs.toList[g]? with
  | some fn => match fn.body with
    | some c => if fn.name == "runtime.NumGoroutine" then none else
      match run c ⟨.leaf, args, args.length + (fn.ntmps - args.length)⟩ s with
      | some (ex, fr, s1) => match ex with
        | .exit _ => none
        | _ => match evRes P fr fn.results.toList s1 with
          | some (vs, s2) => (resOf vs).map fun v => (v, s2)
          | none => none
      | none => none
    | none => none
  | none => none
def evC (P : Program) : Nat → Code → Fr → St → Option (Ex × Fr × St)
  | 0, _, _, _ => none
  | n + 1, c, fr, s =>
    match c with
    | .skip => some (.normal, fr, s)
    | .label _ => some (.normal, fr, s)
    | .seq a b => match evC P n a fr s with
      | some (ex, fr1, s1) => match ex with
        | .normal => evC P n b fr1 s1
        | ex => some (ex, fr1, s1)
      | none => none
    | .cond c a b => if okX c then match evalO fr c with
        | .bool t => evC P n (if t then a else b) fr s
        | _ => none
      else none
    | .block id b => match evC P n b fr s with
      | some (ex, fr1, s1) => match ex with
        | .exit id' => if id' = id then some (.normal, fr1, s1) else some (.exit id', fr1, s1)
        | ex => some (ex, fr1, s1)
      | none => none
    | .loop b => match evC P n b fr s with
      | some (ex, fr1, s1) => match ex with
        | .normal => evC P n (.loop b) fr1 s1
        | ex => some (ex, fr1, s1)
      | none => none
    | .scope b => evC P n b fr s
    | .exit id => some (.exit id, fr, s)
    | .ret => some (.ret, fr, s)
    | .region _ ops draw => if draw then (evD P (evF P (evC P n)) ops fr s).map fun x => (.normal, x.1, x.2)
      else if okOps ops.toList then (evOps P (evF P (evC P n)) ops ops.toList fr s).map fun x => (.normal, x.1, x.2) else none
    | _ => none

theorem evRes_mo {P : Program} {fr : Fr} : ∀ (l : List ResultVar) (s s' : St) (vs : List Value), evRes P fr l s = some (vs, s') → Mo s s'
  | [], s, s', vs, h => by simp only [evRes] at h; cases h; exact Mo.refl _
  | .tmp t :: rs, s, s', vs, h => by
    simp only [evRes] at h
    obtain ⟨x, hx, he⟩ := Option.map_eq_some_iff.1 h
    cases he
    exact evRes_mo rs s x.2 x.1 hx
  | .cell a t :: rs, s, s', vs, h => by
    simp only [evRes] at h
    split at h
    · rename_i v s1 hl
      obtain ⟨x, hx, he⟩ := Option.map_eq_some_iff.1 h
      cases he
      exact (evLoad_mo hl).trans (evRes_mo rs s1 x.2 x.1 hx)
    · cases h
def oneRes (tmps : Array Value) : ResultVar → Sem Value
  | .tmp t => pure (tmps.getD t undef)
  | .cell a t => do loadVar t (← asAddr (tmps.getD a undef))
theorem evRes_spec {FP : Nat → Prop} {n0 hi B : Nat} {m : Mu} {H : Nat → Option RO} {w : World} {P : Program} {fr : Fr} {a : Act} (ht : TR m fr a) : ∀ (l : List ResultVar) (s s' : St) (vs : List Value), evRes P fr l s = some (vs, s') → Fits FP n0 hi s' → Inv FP n0 hi B m s H w →
    ∃ vs', (l.mapM (oneRes a.tmps)).run P w = .ok vs' w ∧ dnL (dn m) vs = some vs' ∧ Inv FP n0 hi B m s' H w ∧ Ste B m s H w m s' H w
  | [], s, s', vs, h, hf, hv => by
    simp only [evRes] at h
    cases h
    exact ⟨[], rfl, rfl, hv, Ste.refl _ _ _ _ _⟩
  | .tmp t :: rs, s, s', vs, h, hf, hv => by
    simp only [evRes] at h
    obtain ⟨x, hx, he⟩ := Option.map_eq_some_iff.1 h
    cases he
    obtain ⟨vs', h1, h2, h3, h4⟩ := evRes_spec ht rs s x.2 x.1 hx hf hv
    refine ⟨a.tmps.getD t undef :: vs', ?_, ?_, h3, h4⟩
    · simp only [List.mapM_cons, oneRes, Sem.run_bind, Sem.run_pure, Result.andThen_ok, h1]
    · simp only [dnL, ht.at_ t, h2]
  | .cell b t :: rs, s, s', vs, h, hf, hv => by
    simp only [evRes] at h
    split at h
    · rename_i v s1 hl
      obtain ⟨x, hx, he⟩ := Option.map_eq_some_iff.1 h
      cases he
      have mo := evRes_mo rs s1 x.2 x.1 hx
      obtain ⟨v', g1, g2, g3, g4⟩ := evLoad_same hl (mo.fits hf) hv (ht.at_ b)
      obtain ⟨vs', h1, h2, h3, h4⟩ := evRes_spec ht rs s1 x.2 x.1 hx hf g3
      refine ⟨v' :: vs', ?_, ?_, h3, g4.trans h4⟩
      · obtain ⟨ad, had⟩ := evLoad_ptr hl
        have hb := ht.at_ b
        rw [had] at hb
        obtain ⟨p, hp, he⟩ := dn_ptr hb
        rw [he] at g1
        have g1' : (do loadVar t (← asAddr (a.tmps.getD b undef)) : Sem Value).run P w = .ok v' w := by
          rw [he]
          simpa [Instr.loadAt, Instr.sureAddr, asAddr] using g1
        simp only [List.mapM_cons, oneRes, Sem.run_bind, Sem.run_pure] at g1' ⊢
        rw [g1']
        simp only [Result.andThen_ok, Sem.run_bind, h1, Sem.run_pure]
      · simp only [dnL, g2, h2]
    · cases h
theorem resOf_dn {m : Mu} {vs vs' : List Value} {v : Value} (h : resOf vs = some v) (hd : dnL (dn m) vs = some vs') : ∃ v', dn m v = some v' ∧ (if h : vs'.toArray.size = 1 then vs'.toArray[0] else .tuple vs'.toArray) = v' := by
  unfold resOf at h
  split at h
  · cases h
    simp only [dnL] at hd
    split at hd
    · rename_i x xs h1 h2
      cases h2
      cases hd
      exact ⟨x, h1, rfl⟩
    · cases hd
  · rename_i hne
    split at h
    · rename_i hnt
      cases h
      simp only [List.all_eq_true] at hnt
      have hlen := dnL_length hd
      have h1 : ¬ vs'.toArray.size = 1 := by
        simp only [List.size_toArray, hlen]
        intro e
        obtain ⟨x, hx⟩ := List.length_eq_one_iff.1 e
        exact hne x hx
      rw [dif_neg h1]
      refine ⟨.tuple vs'.toArray, ?_, rfl⟩
      have : dnL (dn2 m) vs = some vs' := by
        rw [dnL_iff] at hd ⊢
        rw [← hd]
        apply List.map_congr_left
        intro x hx
        have hxn := noTup_ne (hnt x hx)
        unfold dn
        split
        · exact absurd rfl (hxn _)
        · rfl
      simp only [dn, this, Option.map_some]
    · cases h
theorem run_results {P : Program} {fn : Func} {tmps : Array Value} {w : World} {vs : List Value} (h : (fn.results.toList.mapM (oneRes tmps)).run P w = .ok vs w) :
    (results fn tmps).run P w = .ok (if h : vs.toArray.size = 1 then vs.toArray[0] else .tuple vs.toArray) w := by
  have e : (Array.toList <$> fn.results.mapM (oneRes tmps) : Sem (List Value)) = fn.results.toList.mapM (oneRes tmps) := by
    rw [Array.toList_mapM]
  rw [← e, Sem.run_map] at h
  have hr : (fn.results.mapM (oneRes tmps)).run P w = .ok vs.toArray w := by
    cases hx : (fn.results.mapM (oneRes tmps)).run P w with
    | ok A w' =>
      rw [hx] at h
      simp only [Result.andThen_ok] at h
      injection h with h1 h2
      rw [← h1, h2]
    | halt x w' => rw [hx] at h; cases h
  have e2 : results fn tmps = (do let vs ← fn.results.mapM (oneRes tmps); pure (if h : vs.size = 1 then vs[0] else .tuple vs)) := by
    unfold results
    congr 1
  rw [e2, Sem.run_bind, hr]
  rfl
theorem TR.start {m : Mu} {args args' : List Value} {k : Nat} (h : dnL (dn m) args = some args') : TR m ⟨.leaf, args, args.length + (k - args.length)⟩ { tmps := args'.toArray ++ Array.replicate (k - args'.toArray.size) undef, defers := [] } := by
  have hl := dnL_length h
  refine ⟨by simp [hl], rfl, fun t => ?_⟩
  unfold Fr.slot
  simp only [Tr.get]
  rw [Array.getD_eq_getD_getElem?, Array.getElem?_append]
  simp only [List.size_toArray, hl]
  cases ha : args[t]? with
  | some v =>
    have hlt := (List.getElem?_eq_some_iff.1 ha).1
    obtain ⟨v', hv', hd⟩ := dnL_at h ha
    rw [if_pos hlt]
    simp [hv', hd]
  | none =>
    have hge : args.length ≤ t := List.getElem?_eq_none_iff.1 ha
    rw [if_neg (by omega)]
    simp only [Array.getElem?_replicate]
    split <;> rfl
end Go.Ev
