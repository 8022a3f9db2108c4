/-
  An evaluator of closed runs, eighth part: maps, interface values.
-/
import Derived.Test.YtgndpodeedjohaaEvG
namespace Go.Ev
open Go.RowKit
set_option linter.unusedSimpArgs false
set_option linter.unnecessarySimpa false
set_option linter.unusedVariables false

section
variable {FP : Nat → Prop} {n0 hi B : Nat} {m : Mu} {s s' : St} {H : Nat → Option RO} {w : World} {P : Program}

abbrev Ent := Value × Value × Nat
def entOf (x : Ent) : MapEntry := { key := x.1, val := x.2.1, born := x.2.2 }
def EntRel (m : Mu) (es : List Ent) (es' : List MapEntry) : Prop := es.map (fun x => (some x.1, dn2 m x.2.1, x.2.2)) = es'.map fun e => (some e.key, some e.val, e.born)
theorem EntRel.cons {x : Ent} {es : List Ent} {e : MapEntry} {es' : List MapEntry} : EntRel m (x :: es) (e :: es') ↔ (x.1 = e.key ∧ dn2 m x.2.1 = some e.val ∧ x.2.2 = e.born) ∧ EntRel m es es' := by
  unfold EntRel
  simp only [List.map_cons, List.cons.injEq, Prod.mk.injEq, Option.some.injEq]
theorem EntRel.length {es : List Ent} {es' : List MapEntry} (h : EntRel m es es') : es.length = es'.length := by simpa using congrArg List.length h
theorem EntRel.at_ {es : List Ent} {es' : List MapEntry} (h : EntRel m es es') {i : Nat} {x : Ent} (hi : es[i]? = some x) : ∃ e, es'[i]? = some e ∧ x.1 = e.key ∧ dn2 m x.2.1 = some e.val ∧ x.2.2 = e.born := by
  have := congrArg (·[i]?) h
  simp only [List.getElem?_map, hi, Option.map_some] at this
  cases he : es'[i]? with
  | none => rw [he] at this; cases this
  | some e =>
    rw [he] at this
    simp only [Option.map_some, Option.some.injEq, Prod.mk.injEq] at this
    exact ⟨e, rfl, this⟩
theorem EntRel.set {es : List Ent} {es' : List MapEntry} (h : EntRel m es es') (i : Nat) {x : Ent} {e : MapEntry} (hx : x.1 = e.key ∧ dn2 m x.2.1 = some e.val ∧ x.2.2 = e.born) : EntRel m (es.set i x) (es'.set i e) := by
  unfold EntRel at *
  rw [List.map_set, List.map_set, h, hx.1, hx.2.1, hx.2.2]
theorem EntRel.append {es : List Ent} {es' : List MapEntry} (h : EntRel m es es') {x : Ent} {e : MapEntry} (hx : x.1 = e.key ∧ dn2 m x.2.1 = some e.val ∧ x.2.2 = e.born) : EntRel m (es ++ [x]) (es' ++ [e]) := by
  unfold EntRel at *
  rw [List.map_append, List.map_append, h]
  simp [hx]
theorem map_erase {α β : Type} (f : α → β) : ∀ (l : List α) (i : Nat), (l.eraseIdx i).map f = (l.map f).eraseIdx i
  | [], _ => rfl
  | _ :: _, 0 => rfl
  | x :: l, i + 1 => by simp only [List.eraseIdx_cons_succ, List.map_cons, map_erase f l i]
theorem EntRel.erase {es : List Ent} {es' : List MapEntry} (h : EntRel m es es') (i : Nat) : EntRel m (es.eraseIdx i) (es'.eraseIdx i) := by
  unfold EntRel at *
  rw [map_erase, map_erase, h]
/-- found alike -/
def Found (m : Mu) : Option (Nat × Value) → Option (Nat × Value) → Prop
  | none, none => True
  | some (i, v), some (j, v') => i = j ∧ dn2 m v = some v'
  | _, _ => False
def evNow (d : TypeDesc) (k : Value) : List Ent → Nat → Option (Option (Nat × Value))
  | [], _ => some none
  | e :: es, i =>
    match Instr.sameNow d k e.1 with
    | some true => some (some (i, e.2.1))
    | some false => evNow d k es (i + 1)
    | none => none
theorem evNow_rel {d : TypeDesc} {k : Value} : ∀ (es : List Ent) (es' : List MapEntry) (i : Nat), EntRel m es es' →
    (evNow d k es i = none ∧ Instr.findNow d k es' i = none) ∨ ∃ r r', evNow d k es i = some r ∧ Instr.findNow d k es' i = some r' ∧ Found m r r'
  | [], es', i, h => by
    have := h.length
    cases es' with
    | nil => exact .inr ⟨none, none, rfl, rfl, trivial⟩
    | cons _ _ => simp at this
  | x :: es, es', i, h => by
    cases es' with
    | nil => have := h.length; simp at this
    | cons e es' =>
      obtain ⟨⟨h1, h2, h3⟩, h4⟩ := EntRel.cons.1 h
      simp only [evNow, Instr.findNow, ← h1]
      cases Instr.sameNow d k x.1 with
      | none => exact .inl ⟨rfl, rfl⟩
      | some b =>
        cases b with
        | true => exact .inr ⟨_, _, rfl, rfl, rfl, h2⟩
        | false => exact evNow_rel es es' (i + 1) h4
def evAsk (P : Program) (t : TypeId) (k : Value) : List Ent → Nat → Option (Option (Nat × Value))
  | [], _ => some none
  | e :: es, i =>
    match runPure P (Op.equal t k e.1) with
    | some true => some (some (i, e.2.1))
    | some false => evAsk P t k es (i + 1)
    | none => none
theorem evAsk_rel {t : TypeId} {k : Value} : ∀ (es : List Ent) (es' : List MapEntry) (i : Nat) (r : Option (Nat × Value)), EntRel m es es' → evAsk P t k es i = some r →
    ∃ r', (Instr.findAsking t k es' i).run P w = .ok r' w ∧ Found m r r'
  | [], es', i, r, h, he => by
    have := h.length
    cases es' with
    | nil => cases he; exact ⟨none, rfl, trivial⟩
    | cons _ _ => simp at this
  | x :: es, es', i, r, h, he => by
    cases es' with
    | nil => have := h.length; simp at this
    | cons e es' =>
      obtain ⟨⟨h1, h2, h3⟩, h4⟩ := EntRel.cons.1 h
      simp only [evAsk] at he
      split at he
      · rename_i hp
        cases he
        have hr := runPure_sound hp w
        refine ⟨some (i, e.val), ?_, rfl, h2⟩
        simp only [Instr.findAsking, ← h1, Sem.run_bind, hr, Result.andThen_ok, if_true, Sem.run_pure]
      · rename_i hp
        have hr := runPure_sound hp w
        obtain ⟨r', h5, h6⟩ := evAsk_rel es es' (i + 1) r h4 he
        refine ⟨r', ?_, h6⟩
        simp only [Instr.findAsking, ← h1, Sem.run_bind, hr, Result.andThen_ok, Bool.false_eq_true, if_false, h5]
      · cases he
def evFind (P : Program) (t : TypeId) (k : Value) (es : List Ent) : Option (Option (Nat × Value)) :=
  match P.underlying t with
  | some d => match evNow d k es 0 with
    | some r => some r
    | none => evAsk P t k es 0
  | none => none
theorem evFind_rel {t : TypeId} {k : Value} {es : List Ent} {es' : List MapEntry} {r : Option (Nat × Value)} (h : EntRel m es es') (he : evFind P t k es = some r) : ∃ r', (Instr.findKey t k es').run P w = .ok r' w ∧ Found m r r' := by
  unfold evFind at he
  split at he
  · rename_i d hu
    rcases evNow_rel (d := d) (k := k) es es' 0 h with ⟨h1, h2⟩ | ⟨r1, r2, h1, h2, h3⟩
    · rw [h1] at he
      obtain ⟨r', h5, h6⟩ := evAsk_rel (w := w) es es' 0 r h he
      refine ⟨r', ?_, h6⟩
      simp only [Instr.findKey, Sem.run_bind, run_underlying hu, Result.andThen_ok, h2, h5]
    · rw [h1] at he
      cases he
      refine ⟨r2, ?_, h3⟩
      simp only [Instr.findKey, Sem.run_bind, run_underlying hu, Result.andThen_ok, h2, Sem.run_pure]
  · cases he

def evMakeMap (s : St) : Option (Value × St) := (s.new (.map [] 0)).map fun s' => (.map (some s.nx), s')
theorem evMakeMap_spec {t : TypeId} {v : Value} (h : evMakeMap s = some (v, s')) (hf : Fits FP n0 hi s') (hv : Inv FP n0 hi B m s H w) : Good FP n0 hi B P (Instr.makeMap t none) v m s H w s' := by
  obtain ⟨s1, hs, he⟩ := Option.map_eq_some_iff.1 h
  obtain ⟨rfl, rfl⟩ := Prod.mk.inj he
  obtain ⟨h1, h2⟩ := new_spec hs hf.1 hv 0 (.map #[] 0) ⟨_, #[], upd_same _ _ _, hv.base, heap_alloc_new w _, rfl⟩
  refine ⟨.map (some w.heap.size), _, _, _, ?_, ?_, h1, h2⟩
  · simp [Instr.makeMap, newObj, Sem.run]
  · show (upd m s.nx (some (w.heap.size, 0)) s.nx).map _ = _
    rw [upd_same]; rfl
def answer (ok : Bool) (v : Value) (b : Bool) : Value := if ok then .tuple #[v, .bool b] else v
theorem answer_dn {ok b : Bool} {v v' : Value} (h : dn2 m v = some v') : dn m (answer ok v b) = some (answer ok v' b) := by
  unfold answer
  cases ok with
  | false => exact dn_of_dn2 h
  | true =>
    simp only [if_true, dn, dnL, h]
    rfl
def evLookup (P : Program) (t : TypeId) (x k : Value) (ok : Bool) (s : St) : Option (Value × St) :=
  match P.underlying t, x with
  | some (.map kt et), .map (some r) => match s.look r with
    | some (.map es _, s') => if cl k then
        match runPure P (Instr.checkKey es.isEmpty 10000 kt k), evFind P kt k es with
        | some (), some (some (_, v)) => some (answer ok v true, s')
        | some (), some none => match P.info? et with
          | some i => match i.zero with
            | some z => if cl2 z then some (answer ok z false, s') else none
            | none => none
          | none => none
        | _, _ => none
      else none
    | _ => none
  | _, _ => none
theorem isEmpty_rel {es : List Ent} {es' : Array MapEntry} (h : EntRel m es es'.toList) : es'.isEmpty = es.isEmpty := by
  have := h.length
  cases es with
  | nil => simp_all [Array.isEmpty]
  | cons x es =>
    have h0 : es'.size ≠ 0 := by simp at this; omega
    simp [Array.isEmpty, h0]
theorem evLookup_spec {t : TypeId} {x x' k k' v : Value} {ok : Bool} (h : evLookup P t x k ok s = some (v, s')) (hf : Fits FP n0 hi s') (hv : Inv FP n0 hi B m s H w) (hx : dn m x = some x') (hk : dn m k = some k') :
    Good FP n0 hi B P (Instr.lookup t x' k' ok) v m s H w s' := by
  unfold evLookup at h
  split at h
  · rename_i kt et r hu
    obtain ⟨p, hp, rfl⟩ := dn_mapv hx
    split at h
    · rename_i es clock s1 hl
      split at h
      · rename_i hc
        have e := cl_eq hc hk
        subst e
        have main : ∀ v1, s1 = s' → runPure P (Instr.checkKey es.isEmpty 10000 kt k') = some () → ∀ r0, evFind P kt k' es = some r0 →
            (∀ es' : Array MapEntry, EntRel m es es'.toList → w.heap[p.1]? = some (.map es' clock) → ∀ r', (Instr.findKey kt k' es'.toList).run P w = .ok r' w → Found m r0 r' → ∃ v2, ((match r' with
              | some (_, v) => pure (v, true)
              | none => do pure (← zeroValue et, false) : Sem (Value × Bool)).run P w).andThen (fun y w' => (pure (if ok then .tuple #[y.1, .bool y.2] else y.1) : Sem Value).run P w') = .ok v2 w ∧ dn m v1 = some v2) → v1 = v →
            Good FP n0 hi B P (Instr.lookup t (.map (some p.1)) k' ok) v m s H w s' := by
          rintro v1 rfl hck r0 hfk hz rfl
          obtain ⟨hH, _, hv1, st1, _⟩ := look_spec hl hf hv
          obtain ⟨p', es', hp', _, hh, he⟩ := hv.vw.at_ _ _ hH
          rw [hp] at hp'; cases hp'
          have he : EntRel m es es'.toList := he
          obtain ⟨r', h5, h6⟩ := evFind_rel (w := w) he hfk
          obtain ⟨v2, h7, h8⟩ := hz es' he hh r' h5 h6
          refine ⟨v2, w, m, H, ?_, h8, hv1, st1⟩
          have hg : (getObj p.1).run P w = .ok (.map es' clock) w := by simp [getObj, Sem.run, hh]
          have hck' := runPure_sound hck w
          rw [← isEmpty_rel he] at hck'
          simp only [Instr.lookup, Sem.run_bind, run_underlying hu, Result.andThen_ok, hg, Sem.run_pure, hck', h5]
          rcases r' with _ | ⟨j, u⟩
          · cases hz0 : (zeroValue et).run P w <;> simpa [hz0] using h7
          · simpa using h7
        split at h
        · rename_i v1 hck hfk
          cases h
          refine main _ rfl hck _ hfk (fun es' he hh r' hr hfd => ?_) rfl
          cases r' with
          | none => exact hfd.elim
          | some y =>
            obtain ⟨j, v2⟩ := y
            exact ⟨answer ok v2 true, by simp [answer], answer_dn hfd.2⟩
        · rename_i hck hfk
          split at h
          · rename_i i hi'
            split at h
            · rename_i z hz
              split at h
              · rename_i hcz
                cases h
                refine main _ rfl hck _ hfk (fun es' he hh r' hr hfd => ?_) rfl
                cases r' with
                | some y => exact hfd.elim
                | none => exact ⟨answer ok z false, by simp [answer, zeroValue, run_typeInfo _ hi', hz], answer_dn (cl2_dn hcz m)⟩
              · cases h
            · cases h
          · cases h
        · cases h
      · cases h
    · cases h
  · cases h
/-- a map is written anew -/
theorem map_put {id : Nat} {es es1 : List Ent} {clock clock1 : Nat} {s1 : St} (hH : H id = some (.map es clock)) (hp1 : s1.put id (.map es1 clock1) = some s') (hv : Inv FP n0 hi B m s1 H w) {p : Nat × Nat} (hp : m id = some p) {es2 : Array MapEntry} (he : EntRel m es1 es2.toList) :
    ∃ w', (setObj p.1 (.map es2 clock1)).run P w = .ok () w' ∧ Inv FP n0 hi B m s' (upd H id (some (.map es1 clock1))) w' ∧ Ste B m s1 H w m s' (upd H id (some (.map es1 clock1))) w' := by
  obtain ⟨p', es', hp', hB, hh, _⟩ := hv.vw.at_ _ _ hH
  rw [hp] at hp'; cases hp'
  have hlt := (Array.getElem?_eq_some_iff.1 hh).1
  refine ⟨{ w with heap := w.heap.setIfInBounds p.1 (.map es2 clock1) }, by simp [setObj, Sem.run, hh], ?_⟩
  refine put_spec hp1 hv hH rfl hp (fun k hk => ?_) rfl rfl rfl (by simp) ⟨p, es2, hp, hB, ?_, he⟩
  · show (w.heap.setIfInBounds p.1 _)[k]? = _
    rw [Array.getElem?_setIfInBounds_ne (fun e => hk e.symm)]
  · show (w.heap.setIfInBounds p.1 _)[p.1]? = _
    simp [hlt]
def evMapUpdate (P : Program) (t : TypeId) (x k v : Value) (s : St) : Option (Value × St) :=
  match P.underlying t, x with
  | some (.map kt _), .map (some r) => match s.look r with
    | some (.map es clock, s1) => if cl k && noTup v then
        match runPure P (Instr.checkKey false 10000 kt k), evFind P kt k es with
        | some (), some (some (i, _)) => match es[i]? with
          | some e => if Instr.sameBits 10000 e.1 k then (s1.put r (.map (es.set i (k, v, e.2.2)) clock)).map fun s' => (undef, s') else none
          | none => none
        | some (), some none => (s1.put r (.map (es ++ [(k, v, clock)]) (clock + 1))).map fun s' => (undef, s')
        | _, _ => none
      else none
    | _ => none
  | _, _ => none
theorem evMapUpdate_spec {t : TypeId} {x x' k k' y y' v : Value} (h : evMapUpdate P t x k y s = some (v, s')) (hf : Fits FP n0 hi s') (hv : Inv FP n0 hi B m s H w) (hx : dn m x = some x') (hk : dn m k = some k') (hy : dn m y = some y') :
    v = undef ∧ ∃ w' H', (Instr.mapUpdate t x' k' y').run P w = .ok () w' ∧ Inv FP n0 hi B m s' H' w' ∧ Ste B m s H w m s' H' w' := by
  unfold evMapUpdate at h
  split at h
  · rename_i kt et r hu
    obtain ⟨p, hp, rfl⟩ := dn_mapv hx
    split at h
    · rename_i es clock s1 hl
      split at h
      · rename_i hc
        simp only [Bool.and_eq_true] at hc
        have e := cl_eq hc.1 hk
        subst e
        have hy2 := dn2_of_cells hy (noTup_ne hc.2)
        split at h
        · rename_i i v1 hck hfk
          split at h
          · rename_i e he0
            split at h
            · rename_i hsb
              obtain ⟨s2, hs2, he⟩ := Option.map_eq_some_iff.1 h
              obtain ⟨rfl, rfl⟩ := Prod.mk.inj he
              obtain ⟨hH, _, hv1, st1, _⟩ := look_spec hl (put_fits hs2 hf) hv
              obtain ⟨p', es', hp', _, hh, he⟩ := hv.vw.at_ _ _ hH
              rw [hp] at hp'; cases hp'
              have he : EntRel m es es'.toList := he
              obtain ⟨r', h5, h6⟩ := evFind_rel (w := w) he hfk
              cases r' with
              | none => exact h6.elim
              | some y2 =>
                obtain ⟨j, v2⟩ := y2
                obtain ⟨rfl, _⟩ := h6
                obtain ⟨e', he', k1, k2, k3⟩ := he.at_ he0
                have hj : es'[i]? = some e' := by simpa using he'
                obtain ⟨hlt, hje⟩ := Array.getElem?_eq_some_iff.1 hj
                have hmod : (es'.modify i fun e => { e with key := k', val := y' }).toList = es'.toList.set i { key := k', val := y', born := e'.born } := by
                  apply List.ext_getElem?
                  intro q
                  simp only [Array.getElem?_toList, Array.getElem?_modify, List.getElem?_set, Array.length_toList]
                  by_cases hq : i = q
                  · subst hq; simp [hlt, hje]
                  · simp [hq]
                obtain ⟨w', r1, r2, r3⟩ := map_put (P := P) hH hs2 hv1 hp (es2 := es'.modify i fun e => { e with key := k', val := y' }) (by rw [hmod]; exact he.set i ⟨rfl, hy2, k3⟩)
                refine ⟨rfl, w', _, ?_, r2, st1.trans r3⟩
                have hg : (getObj p.1).run P w = .ok (.map es' clock) w := by simp [getObj, Sem.run, hh]
                have hck' := runPure_sound hck w
                rw [k1] at hsb
                simp only [Instr.mapUpdate, Sem.run_bind, run_underlying hu, Result.andThen_ok, hg, Sem.run_pure, hck', h5, hj, Option.map_some, Option.getD_some, Instr.keyThatStays, hsb, if_true, r1]
            · cases h
          · cases h
        · rename_i hck hfk
          obtain ⟨s2, hs2, he⟩ := Option.map_eq_some_iff.1 h
          obtain ⟨rfl, rfl⟩ := Prod.mk.inj he
          obtain ⟨hH, _, hv1, st1, _⟩ := look_spec hl (put_fits hs2 hf) hv
          obtain ⟨p', es', hp', _, hh, he⟩ := hv.vw.at_ _ _ hH
          rw [hp] at hp'; cases hp'
          have he : EntRel m es es'.toList := he
          obtain ⟨r', h5, h6⟩ := evFind_rel (w := w) he hfk
          cases r' with
          | some _ => exact h6.elim
          | none =>
            obtain ⟨w', r1, r2, r3⟩ := map_put (P := P) hH hs2 hv1 hp (es2 := es'.push { key := k', val := y', born := clock }) (by rw [Array.toList_push]; exact he.append ⟨rfl, hy2, rfl⟩)
            refine ⟨rfl, w', _, ?_, r2, st1.trans r3⟩
            have hg : (getObj p.1).run P w = .ok (.map es' clock) w := by simp [getObj, Sem.run, hh]
            have hck' := runPure_sound hck w
            simp only [Instr.mapUpdate, Sem.run_bind, run_underlying hu, Result.andThen_ok, hg, Sem.run_pure, hck', h5, r1]
        · cases h
      · cases h
    · cases h
  · cases h
def evDelete (P : Program) (t : TypeId) (x k : Value) (s : St) : Option (Value × St) :=
  match P.underlying t, x with
  | some (.map kt _), .map (some r) => match s.look r with
    | some (.map es clock, s1) => if cl k then
        match runPure P (Instr.checkKey es.isEmpty 10000 kt k), evFind P kt k es with
        | some (), some (some (i, _)) => (s1.put r (.map (es.eraseIdx i) clock)).map fun s' => (undef, s')
        | some (), some none => (s1.put r (.map es clock)).map fun s' => (undef, s')
        | _, _ => none
      else none
    | _ => none
  | _, _ => none
theorem evDelete_spec {t u ty : TypeId} {x x' k k' v : Value} (h : evDelete P t x k s = some (v, s')) (hf : Fits FP n0 hi s') (hv : Inv FP n0 hi B m s H w) (hx : dn m x = some x') (hk : dn m k = some k') :
    Good FP n0 hi B P (Builtin.delete_ #[t, u] ty #[x', k']) v m s H w s' := by
  unfold evDelete at h
  split at h
  · rename_i kt et r hu
    obtain ⟨p, hp, rfl⟩ := dn_mapv hx
    split at h
    · rename_i es clock s1 hl
      split at h
      · rename_i hc
        have e := cl_eq hc hk
        subst e
        split at h
        · rename_i i v1 hck hfk
          obtain ⟨s2, hs2, he⟩ := Option.map_eq_some_iff.1 h
          obtain ⟨rfl, rfl⟩ := Prod.mk.inj he
          obtain ⟨hH, _, hv1, st1, _⟩ := look_spec hl (put_fits hs2 hf) hv
          obtain ⟨p', es', hp', _, hh, he⟩ := hv.vw.at_ _ _ hH
          rw [hp] at hp'; cases hp'
          have he : EntRel m es es'.toList := he
          obtain ⟨r', h5, h6⟩ := evFind_rel (w := w) he hfk
          cases r' with
          | none => exact h6.elim
          | some y2 =>
            obtain ⟨j, v2⟩ := y2
            obtain ⟨rfl, _⟩ := h6
            obtain ⟨w', r1, r2, r3⟩ := map_put (P := P) hH hs2 hv1 hp (es2 := es'.eraseIdxIfInBounds i) (by rw [Array.toList_eraseIdxIfInBounds]; exact he.erase i)
            refine ⟨undef, w', m, _, ?_, rfl, r2, st1.trans r3⟩
            have hg : (getObj p.1).run P w = .ok (.map es' clock) w := by simp [getObj, Sem.run, hh]
            have hck' := runPure_sound hck w
            rw [← isEmpty_rel he] at hck'
            simp [Builtin.delete_, run_underlying hu, hg, hck', h5, r1, undef]
        · rename_i hck hfk
          obtain ⟨s2, hs2, he⟩ := Option.map_eq_some_iff.1 h
          obtain ⟨rfl, rfl⟩ := Prod.mk.inj he
          obtain ⟨hH, _, hv1, st1, _⟩ := look_spec hl (put_fits hs2 hf) hv
          obtain ⟨p', es', hp', _, hh, he⟩ := hv.vw.at_ _ _ hH
          rw [hp] at hp'; cases hp'
          have he : EntRel m es es'.toList := he
          obtain ⟨r', h5, h6⟩ := evFind_rel (w := w) he hfk
          cases r' with
          | some _ => exact h6.elim
          | none =>
            obtain ⟨w', r1, r2, r3⟩ := map_put (P := P) hH hs2 hv1 hp (es2 := es') he
            refine ⟨undef, w', m, _, ?_, rfl, r2, st1.trans r3⟩
            have hg : (getObj p.1).run P w = .ok (.map es' clock) w := by simp [getObj, Sem.run, hh]
            have hck' := runPure_sound hck w
            rw [← isEmpty_rel he] at hck'
            simp [Builtin.delete_, run_underlying hu, hg, hck', h5, r1, undef]
        · cases h
      · cases h
    · cases h
  · cases h
def isIface : TypeDesc → Bool
  | .interface _ => true
  | _ => false
def evAssert (P : Program) (x : Value) (a : TypeId) (ok : Bool) : Option Value :=
  match P.underlying a, x with
  | some d, .iface t v => if isIface d then none else if Nat.beq t a then some (answer ok v true) else if ok then
      match P.info? a with
      | some i => match i.zero with
        | some z => if cl2 z then some (answer true z false) else none
        | none => none
      | none => none
    else none
  | _, _ => none
theorem evAssert_spec {x x' v : Value} {xt a : TypeId} {ok : Bool} (h : evAssert P x a ok = some v) (hv : Inv FP n0 hi B m s H w) (hx : dn m x = some x') : Good FP n0 hi B P (Instr.typeAssert x' xt a ok) v m s H w s := by
  unfold evAssert at h
  split at h
  · rename_i d t v1 hu
    obtain ⟨v2, hv2, rfl⟩ := Option.map_eq_some_iff.1 (show (dn0 m v1).map _ = some x' from hx)
    have hd2 : dn2 m v1 = some v2 := by
      apply dn2_of_dn1
      unfold dn1
      split
      · simp [dn0] at hv2
      · simp [dn0] at hv2
      · exact hv2
    split at h
    · cases h
    · rename_i hi'
      split at h
      · rename_i hta
        have hta : t = a := Nat.eq_of_beq_eq_true hta
        subst hta
        cases h
        refine Good.same ?_ (answer_dn hd2) hv
        cases d <;> first
          | (exact absurd rfl hi'; done)
          | simp [Instr.typeAssert, run_underlying hu, answer]
      · rename_i hta
        have hta : ¬ t = a := fun e => hta (by rw [e]; simp)
        split at h
        · rename_i hok
          subst hok
          split at h
          · rename_i i hii
            split at h
            · rename_i z hz
              split at h
              · rename_i hcz
                cases h
                refine Good.same ?_ (answer_dn (cl2_dn hcz m)) hv
                cases d <;> first
                  | (exact absurd rfl hi'; done)
                  | simp [Instr.typeAssert, run_underlying hu, answer, hta, zeroValue, run_typeInfo _ hii, hz]
              · cases h
            · cases h
          · cases h
        · cases h
  · cases h
def evMakeIface (P : Program) (t : TypeId) (x : Value) : Option Value :=
  match P.underlying t with
  | some d => if isIface d then none else if leaf x then some (.iface t x) else none
  | none => none
theorem evMakeIface_spec {x x' v : Value} {t : TypeId} (h : evMakeIface P t x = some v) (hv : Inv FP n0 hi B m s H w) (hx : dn m x = some x') : Good FP n0 hi B P (Instr.makeInterface t x') v m s H w s := by
  unfold evMakeIface at h
  split at h
  · rename_i d hu
    split at h
    · cases h
    · rename_i hi'
      split at h
      · rename_i hl
        cases h
        have := leaf_dn hl hx
        refine Good.same (v' := .iface t x') ?_ (dn_of_dn1 (by simp [dn1, this])) hv
        cases d <;> first
          | (exact absurd rfl hi'; done)
          | simp [Instr.makeInterface, run_underlying hu]
      · cases h
  · cases h
end
end Go.Ev
