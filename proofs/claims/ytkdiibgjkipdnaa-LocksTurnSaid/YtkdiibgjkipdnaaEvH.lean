/-
  An evaluator of closed runs, eighth part: maps, interface values.
-/
import Derived.Test.YtkdiibgjkipdnaaEvD
namespace Go.Ev
open Go.RowKit
set_option linter.unusedSimpArgs false
set_option linter.unnecessarySimpa false
set_option linter.unusedVariables false

section
variable {FP : Nat → Prop} {n0 hi B : Nat} {m : Mu} {s s' : St} {H : Nat → Option RO} {w : World} {P : Program}

theorem dnL_set {f : Value → Option Value} {l l' : List Value} {v v' : Value} (h : dnL f l = some l') (k : f v = some v') (i : Nat) : dnL f (l.set i v) = some (l'.set i v') := by
  rw [dnL_iff] at *
  rw [List.map_set, List.map_set, h, k]
theorem fold_rel {f : Value → Option Value} (o : Nat) : ∀ (vs vs' : List Value) (k : Nat) (A A' : Array Value), dnL f vs = some vs' → dnL f A.toList = some A'.toList →
    dnL f ((vs.zipIdx k).foldl (fun cs (c, j) => cs.setIfInBounds (o + j) c) A).toList = some ((vs'.zipIdx k).foldl (fun cs (c, j) => cs.setIfInBounds (o + j) c) A').toList
  | [], vs', k, A, A', h, hA => by simp [dnL] at h; subst h; simpa using hA
  | v :: vs, vs', k, A, A', h, hA => by
    simp only [dnL] at h
    split at h
    · rename_i x xs h1 h2
      cases h
      simp only [List.zipIdx_cons, List.foldl_cons]
      refine fold_rel o vs xs (k + 1) _ _ h2 ?_
      simp only [Array.toList_setIfInBounds]
      exact dnL_set hA h1 _
    · cases h
theorem fill_rel (place : Nat → Option (Nat × Nat)) (ρ ρ' : Operand → Value) : ∀ (ps : List (Nat × Operand)) (A A' r : Array Value), (∀ x ∈ ps, dn2 m (ρ x.2) = some (ρ' x.2)) → dnL (dn1 m) A.toList = some A'.toList →
    Instr.fill place A (ps.map fun (i, x) => (i, ρ x)) = some r → ∃ r', Instr.fill place A' (ps.map fun (i, x) => (i, ρ' x)) = some r' ∧ dnL (dn1 m) r.toList = some r'.toList
  | [], A, A', r, _, hA, h => by
    simp only [List.map_nil, Instr.fill] at h ⊢
    cases h
    exact ⟨_, rfl, hA⟩
  | (i, x) :: ps, A, A', r, hp, hA, h => by
    simp only [List.map_cons, Instr.fill] at h ⊢
    cases hpl : place i with
    | none => rw [hpl] at h; cases h
    | some q =>
      obtain ⟨off, size⟩ := q
      rw [hpl] at h
      simp only at h ⊢
      have hx := dn2_cells (hp (i, x) (by simp))
      have e1 : (ρ' x).cells.size = (ρ x).cells.size := by simpa using dnL_length hx
      have e2 : A'.size = A.size := by simpa using dnL_length hA
      rw [e1, e2]
      split at h
      · cases h
      · rename_i hc
        rw [if_neg hc]
        refine fill_rel place ρ ρ' ps _ _ r (fun y hy => hp y (by simp [hy])) ?_ h
        have := fold_rel (f := dn1 m) off (ρ x).cells.toList (ρ' x).cells.toList 0 A A' hx hA
        rw [← Array.foldl_toList, ← Array.foldl_toList]
        simpa using this
def noTup : Value → Bool
  | .tuple _ => false
  | _ => true
theorem noTup_ne {v : Value} (h : noTup v = true) : ∀ vs, v ≠ .tuple vs := by
  intro vs e
  subst e
  cases h
theorem zero_cells {z : Value} (h : cl2 z = true) : dnL (dn1 m) z.cells.toList = some z.cells.toList := dn2_cells (cl2_dn h m)
def places (P : Program) (fs : Array Field) : Option (Array (Nat × Nat)) := runPure P (fs.mapM fun f => do pure (f.offset, ← sizeOf f.type))
def evBuild (P : Program) (t : TypeId) (ps : Array (Nat × Operand)) (ρ : Operand → Value) : Option Value :=
  match P.underlying t, P.info? t with
  | some (.struct fs), some i => match i.zero, places P fs with
    | some z, some pl => if cl2 z && ps.toList.all (fun x => noTup (ρ x.2)) then (Instr.fill (pl[·]?) z.cells (ps.toList.map fun (i, x) => (i, ρ x))).map fun a => .agg a else none
    | _, _ => none
  | some (.array _ e), some i => match i.zero, P.info? e with
    | some z, some o => if cl2 z && ps.toList.all (fun x => noTup (ρ x.2)) then (Instr.fill (fun i => some (i * o.size, o.size)) z.cells (ps.toList.map fun (i, x) => (i, ρ x))).map fun a => .agg a else none
    | _, _ => none
  | _, _ => none
theorem evBuild_spec {t : TypeId} {ps : Array (Nat × Operand)} {ρ ρ' : Operand → Value} {v : Value} (h : evBuild P t ps ρ = some v) (hv : Inv FP n0 hi B m s H w) (hd : ∀ x ∈ ps, dn m (ρ x.2) = some (ρ' x.2)) :
    Good FP n0 hi B P (Instr.build t (ps.map fun (i, x) => (i, ρ' x))) v m s H w s := by
  unfold evBuild at h
  split at h
  · rename_i fs i hu hi'
    split at h
    · rename_i z pl hz hpl
      split at h
      · rename_i hc
        simp only [Bool.and_eq_true, List.all_eq_true] at hc
        obtain ⟨a, ha, rfl⟩ := Option.map_eq_some_iff.1 h
        obtain ⟨r', hr, hd'⟩ := fill_rel (m := m) (pl[·]?) ρ ρ' ps.toList z.cells z.cells a (fun x hx => dn2_of_cells (hd x (by simpa using hx)) (noTup_ne (hc.2 x hx))) (zero_cells hc.1) ha
        refine Good.same (v' := .agg r') ?_ (dn_of_dn2 (by simp [dn2, hd'])) hv
        have hp := runPure_sound (P := P) (show runPure P _ = some pl from hpl) w
        have e : (ps.map fun (i, x) => (i, ρ' x)).toList = ps.toList.map fun (i, x) => (i, ρ' x) := by simp
        simp only [Instr.build, zeroValue, Sem.run_bind, run_typeInfo _ hi', Result.andThen_ok, hz, Sem.run_pure, run_underlying hu, hp, e, hr]
      · cases h
    · cases h
  · rename_i n e i hu hi'
    split at h
    · rename_i z o hz ho
      split at h
      · rename_i hc
        simp only [Bool.and_eq_true, List.all_eq_true] at hc
        obtain ⟨a, ha, rfl⟩ := Option.map_eq_some_iff.1 h
        obtain ⟨r', hr, hd'⟩ := fill_rel (m := m) (fun i => some (i * o.size, o.size)) ρ ρ' ps.toList z.cells z.cells a (fun x hx => dn2_of_cells (hd x (by simpa using hx)) (noTup_ne (hc.2 x hx))) (zero_cells hc.1) ha
        refine Good.same (v' := .agg r') ?_ (dn_of_dn2 (by simp [dn2, hd'])) hv
        have e : (ps.map fun (i, x) => (i, ρ' x)).toList = ps.toList.map fun (i, x) => (i, ρ' x) := by simp
        simp only [Instr.build, zeroValue, Sem.run_bind, run_typeInfo _ hi', Result.andThen_ok, hz, Sem.run_pure, run_underlying hu, sizeOf, run_typeInfo _ ho, e, hr]
      · cases h
    · cases h
  · cases h
/-- so many times the zero value's cells -/
def zeros (n : Nat) (z : Array Value) : Array Value := (Array.range n).map (z[· % z.size]!)
theorem zeros_dn {z : Value} (h : cl2 z = true) (n : Nat) : dnL (dn1 m) (zeros n (if n = 0 then #[] else z.cells)).toList = some (zeros n (if n = 0 then #[] else z.cells)).toList := by
  by_cases hn : n = 0
  · subst hn; simp [zeros, dnL]
  · rw [if_neg hn]
    rw [dnL_iff]
    simp only [zeros, Array.toList_map, List.map_map]
    apply List.map_congr_left
    intro i _
    have hz := zero_cells (m := m) h
    simp only [Function.comp]
    by_cases h0 : z.cells.size = 0
    · have e : z.cells = #[] := by simpa using h0
      rw [e]
      rfl
    · have hlt : i % z.cells.size < z.cells.size := Nat.mod_lt _ (by omega)
      obtain ⟨v', hv', hd⟩ := dnL_at hz (i := i % z.cells.size) (v := z.cells[i % z.cells.size]) (by simp [hlt])
      have : v' = z.cells[i % z.cells.size] := by simp [hlt] at hv'; exact hv'.symm
      rw [getElem!_pos z.cells (i % z.cells.size) hlt]
      rw [this] at hd
      exact hd
def evBuildSlice (P : Program) (t : TypeId) (len : Nat) (ps : Array (Nat × Operand)) (ρ : Operand → Value) (s : St) : Option (Value × St) :=
  match P.underlying t with
  | some (.slice e) => match P.info? e with
    | some o => match o.zero with
      | some z => if cl2 z && ps.toList.all (fun x => noTup (ρ x.2)) && Nat.ble (len * o.size) 16777216 && Nat.blt len unk then
          match Instr.fill (fun i => some (i * o.size, o.size)) (zeros (len * o.size) (if len * o.size = 0 then #[] else z.cells)) (ps.toList.map fun (i, x) => (i, ρ x)) with
          | some a => (s.new (.cells a.toList e 0)).map fun s' => (.slice (some ⟨s.nx, 0, none⟩) len len, s')
          | none => none
        else none
      | none => none
    | none => none
  | _ => none
theorem evBuildSlice_spec {t : TypeId} {len : Nat} {ps : Array (Nat × Operand)} {ρ ρ' : Operand → Value} {v : Value} (h : evBuildSlice P t len ps ρ s = some (v, s')) (hf : Fits FP n0 hi s') (hv : Inv FP n0 hi B m s H w) (hd : ∀ x ∈ ps, dn m (ρ x.2) = some (ρ' x.2)) :
    Good FP n0 hi B P (Instr.buildSlice t len (ps.map fun (i, x) => (i, ρ' x))) v m s H w s' := by
  unfold evBuildSlice at h
  split at h
  · rename_i e hu
    split at h
    · rename_i o ho
      split at h
      · rename_i z hz
        split at h
        · rename_i hc
          simp only [Bool.and_eq_true, List.all_eq_true, Nat.ble_eq, blt_iff] at hc
          obtain ⟨⟨⟨hcz, hct⟩, hle⟩, hlt⟩ := hc
          split at h
          · rename_i a ha
            obtain ⟨s1, hs, he⟩ := Option.map_eq_some_iff.1 h
            obtain ⟨rfl, rfl⟩ := Prod.mk.inj he
            obtain ⟨r', hr, hd'⟩ := fill_rel (m := m) (fun i => some (i * o.size, o.size)) ρ ρ' ps.toList _ _ a (fun x hx => dn2_of_cells (hd x (by simpa using hx)) (noTup_ne (hct x hx))) (zeros_dn hcz (len * o.size)) ha
            obtain ⟨m', H', g1, g2, g3⟩ := row_new hs hf.1 hv hd'
            refine ⟨_, _, m', H', ?_, mk_slice g1, g2, g3⟩
            have e1 : (ps.map fun (i, x) => (i, ρ' x)).toList = ps.toList.map fun (i, x) => (i, ρ' x) := by simp
            have hle' : ¬ 2 ^ 24 < len * o.size := by omega
            rw [capOf_lt hlt]
            simp only [zeros] at hr
            by_cases h0 : len * o.size = 0
            · have e0 : ∀ f : Nat → Value, (Array.range 0).map f = #[] := fun f => by simp
              simp only [h0, if_true, e0] at hr
              simp only [Instr.buildSlice, Sem.run_bind, run_underlying hu, Result.andThen_ok, sizeOf, run_typeInfo _ ho, Sem.run_pure, gt_iff_lt, hle', if_false, h0, if_true, e1, e0, hr, newRow]
              simp [newObj, Sem.run]
            · simp only [h0, if_false] at hr
              simp only [Instr.buildSlice, Sem.run_bind, run_underlying hu, Result.andThen_ok, sizeOf, run_typeInfo _ ho, Sem.run_pure, gt_iff_lt, hle', if_false, h0, zeroValue, hz, e1, hr, newRow]
              simp [newObj, Sem.run]
          · cases h
        · cases h
      · cases h
    · cases h
  · cases h
def evMakeSlice (P : Program) (t : TypeId) (len cap : Value) (s : St) : Option (Value × St) :=
  match P.underlying t, len, cap with
  | some (.slice e), .int _ l, .int _ c => match P.info? e with
    | some o => match o.zero with
      | some z => if cl2 z && decide (0 ≤ l) && decide (l ≤ c) && decide (c ≤ 16777216) && decide (o.bytes * c ≤ 140737488355328) then
          (s.new (.cells (zeros (c.toNat * o.size) (if c.toNat * o.size = 0 then #[] else z.cells)).toList e 0)).map fun s' => (.slice (some ⟨s.nx, 0, none⟩) l.toNat c.toNat, s')
        else none
      | none => none
    | none => none
  | _, _, _ => none
theorem evMakeSlice_spec {t : TypeId} {x y x' y' v : Value} (h : evMakeSlice P t x y s = some (v, s')) (hf : Fits FP n0 hi s') (hv : Inv FP n0 hi B m s H w) (hx : dn m x = some x') (hy : dn m y = some y') :
    Good FP n0 hi B P (Instr.makeSlice t x' y') v m s H w s' := by
  unfold evMakeSlice at h
  split at h
  · rename_i e k1 l k2 c hu
    cases hx
    cases hy
    split at h
    · rename_i o ho
      split at h
      · rename_i z hz
        split at h
        · rename_i hc
          simp only [Bool.and_eq_true, decide_eq_true_eq] at hc
          obtain ⟨⟨⟨⟨hcz, h0⟩, hlc⟩, hcm⟩, hby⟩ := hc
          obtain ⟨s1, hs, he⟩ := Option.map_eq_some_iff.1 h
          obtain ⟨rfl, rfl⟩ := Prod.mk.inj he
          obtain ⟨m', H', g1, g2, g3⟩ := row_new hs hf.1 hv (zeros_dn hcz (c.toNat * o.size))
          rw [Array.toArray_toList] at g2 g3
          refine ⟨_, _, m', H', ?_, mk_slice g1, g2, g3⟩
          have wl : IntKind.i64.wrap l = l := by rw [IntKind.wrap_i64]; omega
          have wc : IntKind.i64.wrap c = c := by rw [IntKind.wrap_i64]; omega
          have hcu : c.toNat < unk := by unfold unk; omega
          rw [capOf_lt hcu]
          have t1 : decide (c < 0) = false := decide_eq_false (by omega)
          have t2 : decide (281474976710656 < (o.bytes : Int) * c) = false := decide_eq_false (by omega)
          have t3 : decide (l < 0) = false := decide_eq_false (by omega)
          have t4 : decide (c < l) = false := decide_eq_false (by omega)
          have t5 : ¬ 140737488355328 < c.toNat * o.bytes := by
            have e1 : ((c.toNat * o.bytes : Nat) : Int) = (o.bytes : Int) * c := by
              rw [Int.natCast_mul, Int.toNat_of_nonneg (by omega), Int.mul_comm]
            omega
          simp only [Instr.makeSlice, Sem.run_bind, run_underlying hu, Result.andThen_ok, asInt, asIntOf, Sem.run_pure, run_typeInfo _ ho, wl, wc, gt_iff_lt, t1, t3, t4, Bool.or_self, Bool.false_or, Bool.or_false, askRoom, roomBytes]
          have p1 : (2 : Int) ^ 48 = 281474976710656 := by decide
          have p2 : 2 ^ 47 = 140737488355328 := by decide
          simp only [p1, p2, t2, t5, Bool.or_self, Bool.false_eq_true, if_false, Sem.run_pure, Result.andThen_ok, sizeOf, run_typeInfo _ ho, Sem.run_bind]
          by_cases hn : c.toNat * o.size = 0
          · have e0 : ∀ f : Nat → Value, (Array.range 0).map f = #[] := fun f => by simp
            simp only [hn, if_true, Sem.run_pure, Result.andThen_ok, e0, newRow, zeros]
            simp [newObj, Sem.run]
          · simp only [hn, if_false, zeroValue, Sem.run_bind, run_typeInfo _ ho, hz, Sem.run_pure, Result.andThen_ok, newRow, zeros]
            simp [newObj, Sem.run]
        · cases h
      · cases h
    · cases h
  · cases h
def evPart (P : Program) (t : TypeId) (cs : Array Value) (o : Nat) : Option Value :=
  match P.underlying t, P.info? t with
  | some d, some i => if aggD d then (if Nat.ble (o + i.size) cs.size then some (.agg (cs.extract o (o + i.size))) else none) else cs[o]?
  | _, _ => none
theorem evPart_spec {t : TypeId} {cs cs' : Array Value} {o : Nat} {v : Value} (h : evPart P t cs o = some v) (hd : dnL (dn1 m) cs.toList = some cs'.toList) : ∃ v', (part t cs' o).run P w = .ok v' w ∧ dn m v = some v' := by
  unfold evPart at h
  split at h
  · rename_i d i hu hi'
    split at h
    · rename_i hag
      split at h
      · rename_i hle
        cases h
        refine ⟨.agg (cs'.extract o (o + i.size)), ?_, ?_⟩
        · simp only [part, Sem.run_bind, run_isAgg hu, Result.andThen_ok, hag, if_true, sizeOf, run_typeInfo _ hi', Sem.run_pure]
        · apply dn_of_dn2
          have := dnL_take (dnL_drop hd o) i.size
          simp only [dn2]
          rw [show (cs.extract o (o + i.size)).toList = (cs.toList.drop o).take i.size by simp [List.extract_eq_take_drop]]
          rw [this]
          simp only [Option.map_some]
          congr 2
          apply Array.ext'
          simp [List.extract_eq_take_drop]
      · cases h
    · rename_i hag
      have hag : aggD d = false := by simpa using hag
      obtain ⟨v', hv', hdv⟩ := dnL_at hd (i := o) (v := v) (by simpa using h)
      refine ⟨v', ?_, dn_of_dn1 hdv⟩
      have : cs'[o]? = some v' := by simpa using hv'
      simp only [part, Sem.run_bind, run_isAgg hu, Result.andThen_ok, hag, Bool.false_eq_true, if_false, this, Sem.run_pure]
  · cases h
theorem dn_agg {cs : Array Value} {v' : Value} (h : dn m (.agg cs) = some v') : ∃ l : List Value, v' = .agg l.toArray ∧ dnL (dn1 m) cs.toList = some l := by
  obtain ⟨l, hl, rfl⟩ := Option.map_eq_some_iff.1 (show (dnL (dn1 m) cs.toList).map _ = some v' from h)
  exact ⟨l, rfl, hl⟩
def evFieldV (P : Program) (t : TypeId) (v : Value) (f : Nat) : Option Value :=
  match P.underlying t, v with
  | some (.struct fs), .agg cs => match fs[f]? with
    | some fl => evPart P fl.type cs fl.offset
    | none => none
  | _, _ => none
theorem evFieldV_spec {t : TypeId} {x x' v : Value} {f : Nat} (h : evFieldV P t x f = some v) (hv : Inv FP n0 hi B m s H w) (hx : dn m x = some x') : Good FP n0 hi B P (Instr.field t x' f) v m s H w s := by
  unfold evFieldV at h
  split at h
  · rename_i fs cs hu
    obtain ⟨l, rfl, hl⟩ := dn_agg hx
    split at h
    · rename_i fl hfl
      obtain ⟨v', h1, h2⟩ := evPart_spec (w := w) (cs' := l.toArray) h (by simpa using hl)
      refine Good.same ?_ h2 hv
      simp only [Instr.field, Sem.run_bind, run_underlying hu, Result.andThen_ok, hfl, asAgg, Sem.run_pure, h1]
    · cases h
  · cases h
def evIndexV (P : Program) (t : TypeId) (v x : Value) : Option Value :=
  match P.underlying t, v, x with
  | some (.array n e), .agg cs, .int _ i => match P.info? e with
    | some o => if decide (0 ≤ i) && decide (i < n) then evPart P e cs (i.toNat * o.size) else none
    | none => none
  | _, _, _ => none
theorem evIndexV_spec {t : TypeId} {x x' y y' v : Value} (h : evIndexV P t x y = some v) (hv : Inv FP n0 hi B m s H w) (hx : dn m x = some x') (hy : dn m y = some y') : Good FP n0 hi B P (Instr.index t x' y') v m s H w s := by
  unfold evIndexV at h
  split at h
  · rename_i n e cs k i hu
    obtain ⟨l, rfl, hl⟩ := dn_agg hx
    cases hy
    split at h
    · rename_i o ho
      split at h
      · rename_i hb
        simp only [Bool.and_eq_true, decide_eq_true_eq] at hb
        obtain ⟨v', h1, h2⟩ := evPart_spec (w := w) (cs' := l.toArray) h (by simpa using hl)
        refine Good.same ?_ h2 hv
        simp only [Instr.index, Sem.run_bind, asIntOf, Sem.run_pure, run_underlying hu, Result.andThen_ok, hb, and_self, if_true, sizeOf, run_typeInfo _ ho, h1]
      · cases h
    · cases h
  · cases h
def evExtract (v : Value) (i : Nat) : Option Value :=
  match v with
  | .tuple vs => vs[i]?
  | _ => none
theorem evExtract_spec {x x' v : Value} {i : Nat} (h : evExtract x i = some v) (hv : Inv FP n0 hi B m s H w) (hx : dn m x = some x') : Good FP n0 hi B P (Instr.extract x' i) v m s H w s := by
  unfold evExtract at h
  split at h
  · rename_i vs
    obtain ⟨l, hl, rfl⟩ := Option.map_eq_some_iff.1 (show (dnL (dn2 m) vs.toList).map _ = some x' from hx)
    obtain ⟨v', hv', hd⟩ := dnL_at hl (i := i) (v := v) (by simpa using h)
    refine Good.same ?_ (dn_of_dn2 hd) hv
    simp [Instr.extract, hv']
  · cases h
def leaf : Value → Bool
  | .func _ _ _ | .iface _ _ | .agg _ | .tuple _ => false
  | _ => true
theorem leaf_dn {v v' : Value} (h : leaf v = true) (hd : dn m v = some v') : dn0 m v = some v' := by
  cases v <;> first | exact hd | (cases h)
theorem map_leaf {ρ ρ' : Operand → Value} : ∀ (xs : List Operand), (∀ x ∈ xs, leaf (ρ x) = true) → (∀ x ∈ xs, dn m (ρ x) = some (ρ' x)) → dnL (dn0 m) (xs.map ρ) = some (xs.map ρ')
  | [], _, _ => rfl
  | x :: xs, h1, h2 => by
    simp only [List.map_cons, dnL]
    rw [leaf_dn (h1 x (by simp)) (h2 x (by simp)), map_leaf xs (fun y hy => h1 y (by simp [hy])) (fun y hy => h2 y (by simp [hy]))]
def evMakeFunc (fn : Fn) (a c : Array Operand) (ρ : Operand → Value) : Option Value :=
  if a.toList.all (fun x => leaf (ρ x)) && c.toList.all (fun x => leaf (ρ x)) then some (.func fn (a.toList.map ρ).toArray (c.toList.map ρ).toArray) else none
theorem evMakeFunc_spec {fn : Fn} {a c : Array Operand} {ρ ρ' : Operand → Value} {v : Value} (h : evMakeFunc fn a c ρ = some v) (hv : Inv FP n0 hi B m s H w) (h1 : ∀ x ∈ a, dn m (ρ x) = some (ρ' x)) (h2 : ∀ x ∈ c, dn m (ρ x) = some (ρ' x)) :
    Good FP n0 hi B P (Instr.makeFunc fn (a.map ρ') (c.map ρ')) v m s H w s := by
  unfold evMakeFunc at h
  split at h
  · rename_i hc
    simp only [Bool.and_eq_true, List.all_eq_true] at hc
    cases h
    refine Good.same (v' := .func fn (a.map ρ') (c.map ρ')) rfl (dn_of_dn1 ?_) hv
    simp only [dn1, map_leaf a.toList hc.1 (fun x hx => h1 x (by simpa using hx)), map_leaf c.toList hc.2 (fun x hx => h2 x (by simpa using hx))]
    have e : ∀ b : Array Operand, (List.map ρ' b.toList).toArray = Array.map ρ' b := fun b => by apply Array.ext'; simp
    rw [e, e]
  · cases h
end
end Go.Ev
namespace Go.Ev
open Go.RowKit
set_option linter.unusedSimpArgs false
set_option linter.unnecessarySimpa false
set_option linter.unusedVariables false

section
variable {FP : Nat → Prop} {n0 hi B : Nat} {m : Mu} {s s' : St} {H : Nat → Option RO} {w : World} {P : Program}

/-- one is nil, the other is not -/
def nilPair (d : TypeDesc) (x y : Value) : Bool :=
  match d, x, y with
  | .pointer _, .pointer (some _), .pointer none => true
  | .pointer _, .pointer none, .pointer (some _) => true
  | .slice _, .slice (some _) _ _, .slice none _ _ => true
  | .slice _, .slice none _ _, .slice (some _) _ _ => true
  | .map _ _, .map (some _), .map none => true
  | .map _ _, .map none, .map (some _) => true
  | .func _ _ _, .func _ _ _, .nilFunc => true
  | .func _ _ _, .nilFunc, .func _ _ _ => true
  | .interface _, .iface _ _, .nilIface => true
  | .interface _, .nilIface, .iface _ _ => true
  | _, _, _ => false
theorem nilPair_dn {d : TypeDesc} {x y x' y' : Value} (h : nilPair d x y = true) (hx : dn m x = some x') (hy : dn m y = some y') : nilPair d x' y' = true := by
  unfold nilPair at h
  split at h
  · obtain ⟨p, _, rfl⟩ := dn_ptr hx; cases hy; rfl
  · obtain ⟨p, _, rfl⟩ := dn_ptr hy; cases hx; rfl
  · obtain ⟨p, _, rfl⟩ := dn_slice hx; cases hy; rfl
  · obtain ⟨p, _, rfl⟩ := dn_slice hy; cases hx; rfl
  · obtain ⟨p, _, rfl⟩ := dn_mapv hx; cases hy; rfl
  · obtain ⟨p, _, rfl⟩ := dn_mapv hy; cases hx; rfl
  · rename_i fn a c
    have : dn1 m (.func fn a c) = some x' := hx
    simp only [dn1] at this
    split at this
    · cases this; cases hy; rfl
    · cases this
  · rename_i fn a c
    have : dn1 m (.func fn a c) = some y' := hy
    simp only [dn1] at this
    split at this
    · cases this; cases hx; rfl
    · cases this
  · obtain ⟨p, _, rfl⟩ := Option.map_eq_some_iff.1 (show (dn0 m _).map _ = some x' from hx); cases hy; rfl
  · obtain ⟨p, _, rfl⟩ := Option.map_eq_some_iff.1 (show (dn0 m _).map _ = some y' from hy); cases hx; rfl
  · cases h
theorem run_nilPair {d : TypeDesc} {t : TypeId} {x y : Value} (h : nilPair d x y = true) (hu : P.underlying t = some d) (n : Nat) : (Op.equalIn (n + 1) t x y).run P w = .ok false w := by
  unfold nilPair at h
  split at h <;> first
    | (cases h; done)
    | simp [Op.equalIn, run_underlying hu]
def evCmp (P : Program) (op : BinOp) (t : TypeId) (x y : Value) : Option Value :=
  match P.underlying t with
  | some d => if nilPair d x y then (match op with
    | .eql => some (.bool false)
    | .neq => some (.bool true)
    | _ => none) else none
  | none => none
theorem evCmp_spec {op : BinOp} {t : TypeId} {a b : Operand} {x y x' y' v : Value} (h : evCmp P op t x y = some v) (hv : Inv FP n0 hi B m s H w) (hx : dn m x = some x') (hy : dn m y = some y') :
    Good FP n0 hi B P (do eqGuard op t a b x' y'; binOp op t x' y') v m s H w s := by
  unfold evCmp at h
  split at h
  · rename_i d hu
    split at h
    · rename_i hn
      have hn' := nilPair_dn hn hx hy
      have he : (Op.equal t x' y').run P w = .ok false w := run_nilPair hn' hu 9999
      have hg : (eqGuard op t a b x' y').run P w = .ok () w := by
        clear h
        unfold nilPair at hn'
        split at hn' <;> first
          | (cases hn'; done)
          | (cases op <;> rfl)
      split at h
      · cases h
        refine Good.same (v' := .bool false) ?_ rfl hv
        have hb : binOp .eql t x' y' = (do pure (.bool (← Op.equal t x' y'))) := by
          unfold nilPair at hn'
          split at hn' <;> first | rfl | (cases hn'; done)
        rw [Sem.run_bind, hg, Result.andThen_ok, hb, Sem.run_bind, he]
        rfl
      · cases h
        refine Good.same (v' := .bool true) ?_ rfl hv
        have hb : binOp .neq t x' y' = (do pure (.bool (!(← Op.equal t x' y')))) := by
          unfold nilPair at hn'
          split at hn' <;> first | rfl | (cases hn'; done)
        rw [Sem.run_bind, hg, Result.andThen_ok, hb, Sem.run_bind, he]
        rfl
      · cases h
    · cases h
  · cases h

theorem Inv.heap {w' : World} (h : Inv FP n0 hi B m s H w) (e : w'.heap = w.heap) : Inv FP n0 hi B m s H w' :=
  ⟨⟨fun id ro hr => (h.vw.at_ id ro hr).mono (Le.refl m) (fun p _ _ _ => by rw [e]), h.vw.inj⟩, h.cp, h.fr, h.lo, by rw [e]; exact h.base⟩
theorem Ste.heap {w' : World} (e : w'.heap = w.heap) (h1 : w'.os = w.os) (h2 : w'.tape = w.tape) (h3 : w'.output = w.output) : Ste B m s H w m s H w' :=
  ⟨Le.refl m, fun _ _ => rfl, fun _ _ _ => rfl, ⟨h1, h2, h3, by rw [e]; exact Nat.le_refl _, fun k _ => by rw [e]⟩, Nat.le_refl _, fun _ h => h, fun _ h => h, fun h => h⟩
/-- what stood under one name stands under another, the old one is no more -/
theorem move_spec {id : Nat} {ro0 ro : RO} {s1 s2 : St} (h1 : s.put id .dead = some s1) (h2 : s1.new ro = some s2) (hf : s2.nx ≤ hi) (hv : Inv FP n0 hi B m s H w) (h0 : H id = some ro0) (hl : ro0.live = true) {p : Nat × Nat} (hp : m id = some p) {w' : World}
    (hw : ∀ k, k ≠ p.1 → w'.heap[k]? = w.heap[k]?) (hos : w'.os = w.os) (htape : w'.tape = w.tape) (hout : w'.output = w.output) (hsz : w'.heap.size = w.heap.size) (c : Nat) (hMt : Mt (upd m s1.nx (some (p.1, c))) B s1.nx w' ro) :
    ∃ m' H', m' s1.nx = some (p.1, c) ∧ Inv FP n0 hi B m' s2 H' w' ∧ Ste B m s H w m' s2 H' w' := by
  obtain ⟨hv1, st1⟩ := put_spec h1 hv h0 hl hp hw hos htape hout hsz (ro := .dead) trivial
  have hB := (hv.vw.at_ id ro0 h0).lt hl hp
  have hlive : ∀ j rj q, upd H id (some .dead) j = some rj → rj.live = true → m j = some q → q.1 ≠ p.1 := by
    intro j rj q hj lj hq e
    by_cases hji : j = id
    · subst hji; rw [upd_same] at hj; cases hj; cases lj
    · rw [upd_ne _ _ hji] at hj
      exact hji (hv.vw.inj j id rj ro0 q p hj h0 lj hl hq hp e)
  generalize upd H id (some RO.dead) = H1 at *
  unfold St.new at h2
  split at h2
  · rename_i hlt
    have hlt : s1.nx < top := blt_iff.1 hlt
    cases h2
    have hf : s1.nx + 1 ≤ hi := hf
    have hid : s1.nx + 1 < 2 ^ 40 := by unfold top at hlt; omega
    obtain ⟨hm0, hH0⟩ := hv1.fr s1.nx (Nat.le_refl _) (by omega)
    have hle : Le m (upd m s1.nx (some (p.1, c))) := fun i q hi => by
      by_cases e : i = s1.nx
      · subst e; rw [hm0] at hi; cases hi
      · rw [upd_ne _ _ e]; exact hi
    refine ⟨_, upd H1 s1.nx (some ro), upd_same _ _ _, ⟨⟨fun j rj hj => ?_, fun i j ri rj q r hi hj li lj hq hr e => ?_⟩, fun j hj hj' => ?_, fun j hj hj' => ?_, Nat.le_succ_of_le hv1.lo, hv1.base⟩,
      st1.trans ⟨hle, fun i hi => ?_, fun i hi hwr => ?_, Below.refl _ _, Nat.le_succ _, fun i e => e, fun i e => e, fun e => e⟩⟩
    · by_cases hji : j = s1.nx
      · subst hji; rw [upd_same] at hj; cases hj; exact hMt
      · rw [upd_ne _ _ hji] at hj
        exact (hv1.vw.at_ j rj hj).mono hle (fun q lq hq hBq => rfl)
    · by_cases ei : i = s1.nx
      · by_cases ej : j = s1.nx
        · rw [ei, ej]
        · rw [ei, upd_same] at hq; cases hq
          rw [upd_ne _ _ ej] at hj hr
          exact absurd e.symm (hlive j rj r hj lj hr)
      · rw [upd_ne _ _ ei] at hi hq
        by_cases ej : j = s1.nx
        · rw [ej, upd_same] at hr; cases hr
          exact absurd e (hlive i ri q hi li hq)
        · rw [upd_ne _ _ ej] at hj hr
          exact hv1.vw.inj i j ri rj q r hi hj li lj hq hr e
    · show (Tr.set 40 s1.hp s1.nx ro).get j = _
      rw [Tr.get_set _ _ _ _ _ hid]
      by_cases e : j = s1.nx
      · rw [if_pos e, e, upd_same]
      · rw [if_neg e, upd_ne _ _ e]; exact hv1.cp j hj hj'
    · have hj : s1.nx + 1 ≤ j := hj
      rw [upd_ne _ _ (by omega), upd_ne _ _ (by omega)]
      exact hv1.fr j (by omega) hj'
    · have hi : i < s1.nx ∨ s1.nx + 1 ≤ i := hi
      rw [upd_ne _ _ (by omega)]
    · have hi : i < s1.nx ∨ s1.nx + 1 ≤ i := hi
      rw [upd_ne _ _ (by omega)]
  · cases h2
end
end Go.Ev
namespace Go.Ev
open Go.RowKit
set_option linter.unusedSimpArgs false
set_option linter.unnecessarySimpa false
set_option linter.unusedVariables false

section
variable {FP : Nat → Prop} {n0 hi B : Nat} {m : Mu} {s s' : St} {H : Nat → Option RO} {w : World} {P : Program}

def few : Nat := 16777216
theorem capOf_unk (c : Nat) : capOf c unk = c := by simp [capOf]
def ownOk (own n c l z : Nat) : Bool := if Nat.beq own 0 then Nat.blt c unk && Nat.beq l (c * z) && Nat.ble n c else Nat.beq own z && Nat.beq c unk && Nat.beq l (n * z)
def evAppend (P : Program) (t : TypeId) (x y : Value) (s : St) : Option (Value × St) :=
  match P.underlying t, y with
  | some (.slice e), .slice (some b) k _ => match P.info? e with
    | some i => match i.zero with
      | some z => if Nat.beq z.cells.size i.size && Nat.blt 0 i.size && Nat.blt 0 k then
          match rd s b (k * i.size) with
          | some (news, s1) => match x with
            | .slice none n c => if Nat.beq n 0 && Nat.beq c 0 && Nat.ble k few && Nat.ble (k * i.bytes) 140737488355328 then (s1.new (.cells news e i.size)).map fun s' => (.slice (some ⟨s1.nx, 0, none⟩) k unk, s') else none
            | .slice (some a) n c => match a.spot with
              | some _ => none
              | none => match s1.look a.block with
                | some (.cells cs e' own, s2) => if Nat.beq a.off 0 && Nat.beq e' e && Nat.ble (n + k) few && Nat.ble ((n + k) * i.bytes) 140737488355328 &&
                      ownOk own n c cs.length i.size then
                    match s2.put a.block .dead with
                    | some s3 => (s3.new (.cells (cs.take (n * i.size) ++ news) e i.size)).map fun s' => (.slice (some ⟨s3.nx, 0, none⟩) (n + k) unk, s')
                    | none => none
                  else none
                | _ => none
            | _ => none
          | none => none
        else none
      | none => none
    | none => none
  | _, _ => none
theorem put_fits {id : Nat} {ro : RO} {s1 : St} (h : s.put id ro = some s1) (hf : Fits FP n0 hi s1) : Fits FP n0 hi s := by
  unfold St.put at h
  split at h
  · cases h
    refine ⟨hf.1, fun i e hi => hf.2 i ?_ hi⟩
    show (s.ac ||| _).testBit i = true
    rw [bit_or, e]; rfl
  · cases h
theorem new_fits {ro : RO} {s1 : St} (h : s.new ro = some s1) (hf : Fits FP n0 hi s1) : Fits FP n0 hi s := by
  unfold St.new at h
  split at h
  · cases h
    exact ⟨Nat.le_trans (Nat.le_succ _) hf.1, hf.2⟩
  · cases h
theorem look_fits {id : Nat} {ro : RO} {s1 : St} (h : s.look id = some (ro, s1)) (hf : Fits FP n0 hi s1) : Fits FP n0 hi s := by
  unfold St.look at h
  split at h
  · obtain ⟨o, ho, he⟩ := Option.map_eq_some_iff.1 h
    obtain ⟨rfl, rfl⟩ := Prod.mk.inj he
    refine ⟨hf.1, fun i e hi => hf.2 i ?_ hi⟩
    show (s.ac ||| _).testBit i = true
    rw [bit_or, e]; rfl
  · cases h
theorem evAppend_spec {t ty : TypeId} {x y x' y' v : Value} (h : evAppend P t x y s = some (v, s')) (hf : Fits FP n0 hi s') (hv : Inv FP n0 hi B m s H w) (hx : dn m x = some x') (hy : dn m y = some y') :
    Good FP n0 hi B P (Builtin.append_ #[t, t] ty #[x', y']) v m s H w s' := by
  unfold evAppend at h
  split at h
  · rename_i e b k kc hu
    obtain ⟨q, hq, rfl⟩ := dn_slice hy
    split at h
    · rename_i i hi'
      split at h
      · rename_i z hz
        split at h
        · rename_i hc
          simp only [Bool.and_eq_true, Nat.beq_eq, blt_iff] at hc
          obtain ⟨⟨hzs, hsz⟩, hk⟩ := hc
          split at h
          · rename_i news s1 hr
            split at h
            · rename_i n c
              cases hx
              split at h
              · rename_i hb
                simp only [Bool.and_eq_true, Nat.beq_eq, Nat.ble_eq] at hb
                obtain ⟨⟨⟨rfl, rfl⟩, hkf⟩, hby⟩ := hb
                obtain ⟨s2, hs2, he⟩ := Option.map_eq_some_iff.1 h
                obtain ⟨rfl, rfl⟩ := Prod.mk.inj he
                obtain ⟨hsp, hl, hv1, st1, q', l', hq', hd, hcell⟩ := rd_spec hr (new_fits hs2 hf) hv
                rw [hq] at hq'; cases hq'
                have hl' : l'.length = k * i.size := by rw [dnL_length hd, hl]
                unfold few at hkf
                have hrun := run_append_nil (P := P) w t ty e i z hu hi' hz ⟨q.1, b.off, none⟩ k (capOf q.2 kc) l' hl' hcell hk (by omega) (by omega)
                have hv2 : Inv FP n0 hi B m s1 H w.drew := hv1.heap rfl
                have hn0 := (hv2.fr s1.nx (Nat.le_refl _) (by
                  have := hf.1
                  unfold St.new at hs2; split at hs2
                  · cases hs2; exact this
                  · cases hs2)).1
                have hle : Le m (upd m s1.nx (some (w.heap.size, grownCap w k 0 e))) := fun j p hj => by
                  by_cases ej : j = s1.nx
                  · subst ej; rw [hn0] at hj; cases hj
                  · rw [upd_ne _ _ ej]; exact hj
                obtain ⟨g1, g2⟩ := new_spec hs2 hf.1 hv2 (grownCap w k 0 e) (.cells (l'.toArray ++ Builtin.zeroCells z.cells (grownCap w k 0 e - k)) e)
                  ⟨_, l'.toArray ++ Builtin.zeroCells z.cells (grownCap w k 0 e - k), l', upd_same _ _ _, hv.base, heap_alloc_new w.drew _, dnL_mono (fun _ _ => dn1_mono hle) hd, by simp, fun h0 => absurd h0 (by omega), fun _ => ⟨by
                    have := grownCap_ge w k 0 e
                    simp only [Array.size_append, List.size_toArray, size_zeroCells, hzs, hl', ← Nat.add_mul]
                    congr 1
                    show k + (grownCap w k 0 e - k) = grownCap w k 0 e
                    omega, grownCap_le_maxLen w k 0 e (by simp only [maxLen]; omega)⟩⟩
                refine ⟨_, _, _, _, ?_, mk_slice (upd_same _ _ _), g1, (st1.trans (Ste.heap (w' := w.drew) rfl rfl rfl rfl)).trans g2⟩
                rw [hsp, hrun, capOf_unk]
                rfl
              · cases h
            · rename_i a n c
              obtain ⟨p, hp, rfl⟩ := dn_slice hx
              split at h
              · cases h
              · rename_i hasp
                split at h
                · rename_i cs e' own s2 hlk
                  split at h
                  · rename_i hb
                    simp only [Bool.and_eq_true, Nat.beq_eq, Nat.ble_eq] at hb
                    obtain ⟨⟨⟨⟨hoff, rfl⟩, hkf⟩, hby⟩, hkind⟩ := hb
                    split at h
                    · rename_i s3 hs3
                      obtain ⟨s4, hs4, he⟩ := Option.map_eq_some_iff.1 h
                      obtain ⟨rfl, rfl⟩ := Prod.mk.inj he
                      have hf3 := new_fits hs4 hf
                      have hf2 := put_fits hs3 hf3
                      have hf1 := look_fits hlk hf2
                      obtain ⟨hsp, hl, hv1, st1, q', l', hq', hd, hcell⟩ := rd_spec hr hf1 hv
                      rw [hq] at hq'; cases hq'
                      obtain ⟨hH, hlt, hv2, st2, _, _⟩ := look_spec hlk hf2 hv1
                      obtain ⟨p', cur, cs', hp', hBp, hcur, hcs, htk, hex, hown⟩ := hv1.vw.at_ _ _ hH
                      rw [hp] at hp'; cases hp'
                      have hl' : l'.length = k * i.size := by rw [dnL_length hd, hl]
                      have hlc := dnL_length hcs
                      have hcur' : cs'.length ≤ cur.size := by
                        have := congrArg List.length htk
                        simp at this; omega
                      unfold few at hkf
                      have hfacts : n * i.size ≤ cs'.length ∧ cur.size = capOf p.2 c * i.size ∧ n ≤ capOf p.2 c ∧ capOf p.2 c ≤ maxLen := by
                        unfold ownOk at hkind
                        split at hkind
                        · rename_i h0
                          have h0 : own = 0 := Nat.eq_of_beq_eq_true h0
                          simp only [Bool.and_eq_true, Nat.beq_eq, Nat.ble_eq, blt_iff] at hkind
                          obtain ⟨⟨k1, k2⟩, k3⟩ := hkind
                          rw [capOf_lt k1]
                          refine ⟨?_, by rw [hex h0, hlc, k2], k3, by unfold unk at k1; simp only [maxLen]; omega⟩
                          rw [hlc, k2]; exact Nat.mul_le_mul_right _ k3
                        · simp only [Bool.and_eq_true, Nat.beq_eq] at hkind
                          obtain ⟨⟨k1, k2⟩, k3⟩ := hkind
                          subst k1
                          subst k2
                          rw [capOf_unk]
                          obtain ⟨k4, k5⟩ := hown (by omega)
                          refine ⟨by omega, k4, ?_, k5⟩
                          have : n * i.size ≤ p.2 * i.size := by omega
                          exact Nat.le_of_mul_le_mul_right this hsz
                      obtain ⟨f1, f2, f3, f4⟩ := hfacts
                      have hd2 : dnL (dn1 m) (cs.take (n * i.size) ++ news) = some (cs'.take (n * i.size) ++ l') := dnL_append (dnL_take hcs _) hd
                      have hlen2 : (cs'.take (n * i.size) ++ l').length = (n + k) * i.size := by
                        rw [List.length_append, List.length_take, Nat.min_eq_left f1, hl', Nat.add_mul]
                      have htk2 : cur.toList.take (n * i.size) = cs'.take (n * i.size) := by
                        rw [← htk, List.take_take, Nat.min_eq_left f1]
                      by_cases hroom : n + k ≤ capOf p.2 c
                      · have hfit : n * i.size + l'.length ≤ cur.size := by
                          rw [hl', f2, ← Nat.add_mul]; exact Nat.mul_le_mul_right _ hroom
                        have hrun := run_append_room (P := P) w t ty e' i hu hi' p.1 n (capOf p.2 c) cur hcur ⟨q.1, b.off, none⟩ k (capOf q.2 kc) l' hl' hcell (dnL_dn1_one hd) hroom hfit
                        have hn0 := (hv2.fr s3.nx (by
                          have : s3.nx = s2.nx := by
                            unfold St.put at hs3; split at hs3
                            · cases hs3; rfl
                            · cases hs3
                          omega) (by
                          have := hf.1
                          unfold St.new at hs4; split at hs4
                          · cases hs4; exact this
                          · cases hs4)).1
                        have hle : Le m (upd m s3.nx (some (p.1, capOf p.2 c))) := fun j r hj => by
                          by_cases ej : j = s3.nx
                          · subst ej; rw [hn0] at hj; cases hj
                          · rw [upd_ne _ _ ej]; exact hj
                        have hnew := setRow_heap w p.1 cur (cur.toList.take (n * i.size) ++ l' ++ cur.toList.drop (n * i.size + l'.length)).toArray e' (0, 0) hcur
                        obtain ⟨m', H', g0, g1, g2⟩ := move_spec hs3 hs4 hf.1 hv2 hH rfl hp (w' := w.setRow p.1 (cur.toList.take (n * i.size) ++ l' ++ cur.toList.drop (n * i.size + l'.length)).toArray)
                          (fun j hj => setRow_other w p.1 j _ hj) rfl rfl rfl (setRow_size _ _ _) (capOf p.2 c)
                          ⟨_, _, cs'.take (n * i.size) ++ l', upd_same _ _ _, hBp, hnew, dnL_mono (fun _ _ => dn1_mono hle) hd2, by
                            rw [htk2]
                            simp only
                            rw [List.take_append_of_le_length (Nat.le_refl _), List.take_of_length_le (Nat.le_refl _)], fun h0 => absurd h0 (by omega), fun _ => ⟨by
                            simp only [List.size_toArray, List.length_append, List.length_take, List.length_drop, Array.length_toList]
                            omega, f4⟩⟩
                        refine ⟨_, _, m', H', ?_, mk_slice g0, g1, (st1.trans st2).trans g2⟩
                        rw [hsp, hasp, hoff, hrun, capOf_unk]
                      · have holds : ∀ j u, (cs'.take (n * i.size))[j]? = some u → w.cell? ((⟨p.1, 0, none⟩ : Addr).add j) = some u := by
                          intro j u hj
                          rw [add_none, Nat.zero_add, cell_of_row w p.1 j cur e' (0, 0) hcur]
                          rw [← htk2, List.getElem?_take] at hj
                          split at hj
                          · simpa using hj
                          · cases hj
                        have hrun := run_append_grow (P := P) w t ty e' i z hu hi' hz ⟨p.1, 0, none⟩ n (capOf p.2 c) (cs'.take (n * i.size)) (by rw [List.length_take, Nat.min_eq_left f1]) holds ⟨q.1, b.off, none⟩ k (capOf q.2 kc) l' hl' hcell (by omega) (by omega) (growslice_fits (by omega) hby)
                        obtain ⟨hv3, st3⟩ := put_spec hs3 hv2 hH rfl hp (w' := w.drew) (fun j hj => rfl) rfl rfl rfl rfl (ro := .dead) trivial
                        have hn0 := (hv3.fr s3.nx (Nat.le_refl _) (by
                          have := hf.1
                          unfold St.new at hs4; split at hs4
                          · cases hs4; exact this
                          · cases hs4)).1
                        have hle : Le m (upd m s3.nx (some (w.heap.size, grownCap w (n + k) (capOf p.2 c) e'))) := fun j r hj => by
                          by_cases ej : j = s3.nx
                          · subst ej; rw [hn0] at hj; cases hj
                          · rw [upd_ne _ _ ej]; exact hj
                        obtain ⟨g1, g2⟩ := new_spec hs4 hf.1 hv3 (grownCap w (n + k) (capOf p.2 c) e') (.cells ((cs'.take (n * i.size)).toArray ++ l'.toArray ++ Builtin.zeroCells z.cells (grownCap w (n + k) (capOf p.2 c) e' - (n + k))) e')
                          ⟨_, _, cs'.take (n * i.size) ++ l', upd_same _ _ _, hv.base, heap_alloc_new w.drew _, dnL_mono (fun _ _ => dn1_mono hle) hd2, by
                            simp only [Array.toList_append]
                            exact List.take_left, fun h0 => absurd h0 (by omega), fun _ => ⟨by
                            have := grownCap_ge w (n + k) (capOf p.2 c) e'
                            have e1 : (cs'.take (n * i.size)).length = n * i.size := by rw [List.length_take, Nat.min_eq_left f1]
                            simp only [Array.size_append, List.size_toArray, size_zeroCells, hzs, hl', e1, ← Nat.add_mul]
                            congr 1
                            show n + k + (grownCap w (n + k) (capOf p.2 c) e' - (n + k)) = grownCap w (n + k) (capOf p.2 c) e'
                            omega, grownCap_le_maxLen w (n + k) _ e' (by simp only [maxLen]; omega)⟩⟩
                        refine ⟨_, _, _, _, ?_, mk_slice (upd_same _ _ _), g1, ((st1.trans st2).trans st3).trans g2⟩
                        rw [hsp, hasp, hoff, hrun, capOf_unk]
                        rfl
                    · cases h
                  · cases h
                · cases h
            · cases h
          · cases h
        · cases h
      · cases h
    · cases h
  · cases h
def evLen (P : Program) (t : TypeId) (x : Value) (s : St) : Option (Value × St) :=
  match P.underlying t, x with
  | some (.slice _), .slice _ n _ => some (.int .i64 n, s)
  | some (.map _ _), .map (some r) => match s.look r with
    | some (.map es _, s') => some (.int .i64 es.length, s')
    | _ => none
  | _, _ => none
theorem evLen_spec {t ty : TypeId} {x x' v : Value} (h : evLen P t x s = some (v, s')) (hf : Fits FP n0 hi s') (hv : Inv FP n0 hi B m s H w) (hx : dn m x = some x') : Good FP n0 hi B P (Builtin.len_ #[t] ty #[x']) v m s H w s' := by
  unfold evLen at h
  split at h
  · rename_i e a n c hu
    cases h
    have : ∃ a' c', x' = .slice a' n c' := by
      cases a with
      | none => cases hx; exact ⟨_, _, rfl⟩
      | some a => obtain ⟨p, _, rfl⟩ := dn_slice hx; exact ⟨_, _, rfl⟩
    obtain ⟨a', c', rfl⟩ := this
    refine Good.same (v' := .int .i64 n) ?_ rfl hv
    simp [Builtin.len_, run_underlying hu, goInt]
  · rename_i k e r hu
    obtain ⟨p, hp, rfl⟩ := dn_mapv hx
    split at h
    · rename_i es clock s1 hl
      cases h
      obtain ⟨hH, _, hv1, st1, _⟩ := look_spec hl hf hv
      obtain ⟨p', es', hp', _, hh, he⟩ := hv.vw.at_ _ _ hH
      rw [hp] at hp'; cases hp'
      refine ⟨.int .i64 es.length, w, m, H, ?_, rfl, hv1, st1⟩
      have hsz : es.length = es'.size := by simpa using congrArg List.length he
      have hg : (getObj p.1).run P w = .ok (.map es' clock) w := by simp [getObj, Sem.run, hh]
      simp [Builtin.len_, run_underlying hu, goInt, hg, hsz]
    · cases h
  · cases h
/-- copy of one row's cells into another's -/
def evCopy (P : Program) (t : TypeId) (x y : Value) (s : St) : Option (Value × St) :=
  match P.underlying t, x, y with
  | some (.slice e), .slice (some a) dn _, .slice (some b) sn _ => match P.info? e, a.spot with
    | some i, none => match rd s b (Nat.min sn dn * i.size) with
      | some (l, s1) => match s1.look a.block with
        | some (.cells cs e' own, s2) => if Nat.ble (a.off + l.length) cs.length then (s2.put a.block (.cells (splice cs a.off l) e' own)).map fun s' => (.int .i64 (Nat.min sn dn : Nat), s') else none
        | _ => none
      | none => none
    | _, _ => none
  | _, _, _ => none
theorem evCopy_spec {t u ty : TypeId} {x y x' y' v : Value} (h : evCopy P t x y s = some (v, s')) (hf : Fits FP n0 hi s') (hv : Inv FP n0 hi B m s H w) (hx : dn m x = some x') (hy : dn m y = some y') :
    Good FP n0 hi B P (Builtin.copy_ #[t, u] ty #[x', y']) v m s H w s' := by
  unfold evCopy at h
  split at h
  · rename_i e a dn' c b sn c2 hu
    obtain ⟨p, hp, rfl⟩ := dn_slice hx
    obtain ⟨q, hq, rfl⟩ := dn_slice hy
    split at h
    · rename_i i hi' hasp
      split at h
      · rename_i l s1 hr
        split at h
        · rename_i cs e' own s2 hlk
          split at h
          · rename_i hle
            obtain ⟨s3, hs3, he⟩ := Option.map_eq_some_iff.1 h
            obtain ⟨rfl, rfl⟩ := Prod.mk.inj he
            have hle : a.off + l.length ≤ cs.length := Nat.le_of_ble_eq_true hle
            have hf2 := put_fits hs3 hf
            obtain ⟨hsp, hl, hv1, st1, q', l', hq', hd, hcell⟩ := rd_spec hr (look_fits hlk hf2) hv
            rw [hq] at hq'; cases hq'
            obtain ⟨hH, hlt, hv2, st2, _, _⟩ := look_spec hlk hf2 hv1
            obtain ⟨w', r1, r2, r3⟩ := write_spec (P := P) (vs' := l') hH hs3 hv2 hle hd hp
            refine ⟨.int .i64 (Nat.min sn dn' : Nat), w', m, _, ?_, rfl, r2, (st1.trans st2).trans r3⟩
            have hl' : l'.length = Nat.min sn dn' * i.size := by rw [dnL_length hd, hl]
            have hc := run_loadCells_list (P := P) w ⟨q.1, b.off, none⟩ l' hcell
            rw [hl'] at hc
            simp [Builtin.copy_, run_underlying hu, Builtin.lenOf, Builtin.firstCells, sizeOf, run_typeInfo _ hi', hsp, hasp, hc, r1, goInt]
          · cases h
        · cases h
      · cases h
    · cases h
  · cases h
end
end Go.Ev
namespace Go.Ev
open Go.RowKit
set_option linter.unusedSimpArgs false
set_option linter.unnecessarySimpa false
set_option linter.unusedVariables false

section
variable {FP : Nat → Prop} {n0 hi B : Nat} {m : Mu} {s s' : St} {H : Nat → Option RO} {w : World} {P : Program}

abbrev Ent := Value × Value × Nat
def entOf (x : Ent) : MapEntry := { key := x.1, val := x.2.1, born := x.2.2 }
def EntRel (m : Mu) (es : List Ent) (es' : List MapEntry) : Prop := es.map (fun x => (some x.1, dn2 m x.2.1, x.2.2)) = es'.map fun e => (some e.key, some e.val, e.born)
theorem EntRel.cons {x : Ent} {es : List Ent} {e : MapEntry} {es' : List MapEntry} : EntRel m (x :: es) (e :: es') ↔ (x.1 = e.key ∧ dn2 m x.2.1 = some e.val ∧ x.2.2 = e.born) ∧ EntRel m es es' := by
  unfold EntRel
  simp only [List.map_cons, List.cons.injEq, Prod.mk.injEq, Option.some.injEq]
theorem EntRel.length {es : List Ent} {es' : List MapEntry} (h : EntRel m es es') : es.length = es'.length := by simpa using congrArg List.length h
theorem EntRel.at_ {es : List Ent} {es' : List MapEntry} (h : EntRel m es es') {i : Nat} {x : Ent} (hi : es[i]? = some x) : ∃ e, es'[i]? = some e ∧ x.1 = e.key ∧ dn2 m x.2.1 = some e.val ∧ x.2.2 = e.born := by
  have := congrArg (·[i]?) h
  simp only [List.getElem?_map, hi, Option.map_some] at this
  cases he : es'[i]? with
  | none => rw [he] at this; cases this
  | some e =>
    rw [he] at this
    simp only [Option.map_some, Option.some.injEq, Prod.mk.injEq] at this
    exact ⟨e, rfl, this⟩
theorem EntRel.set {es : List Ent} {es' : List MapEntry} (h : EntRel m es es') (i : Nat) {x : Ent} {e : MapEntry} (hx : x.1 = e.key ∧ dn2 m x.2.1 = some e.val ∧ x.2.2 = e.born) : EntRel m (es.set i x) (es'.set i e) := by
  unfold EntRel at *
  rw [List.map_set, List.map_set, h, hx.1, hx.2.1, hx.2.2]
theorem EntRel.append {es : List Ent} {es' : List MapEntry} (h : EntRel m es es') {x : Ent} {e : MapEntry} (hx : x.1 = e.key ∧ dn2 m x.2.1 = some e.val ∧ x.2.2 = e.born) : EntRel m (es ++ [x]) (es' ++ [e]) := by
  unfold EntRel at *
  rw [List.map_append, List.map_append, h]
  simp [hx]
theorem map_erase {α β : Type} (f : α → β) : ∀ (l : List α) (i : Nat), (l.eraseIdx i).map f = (l.map f).eraseIdx i
  | [], _ => rfl
  | _ :: _, 0 => rfl
  | x :: l, i + 1 => by simp only [List.eraseIdx_cons_succ, List.map_cons, map_erase f l i]
theorem EntRel.erase {es : List Ent} {es' : List MapEntry} (h : EntRel m es es') (i : Nat) : EntRel m (es.eraseIdx i) (es'.eraseIdx i) := by
  unfold EntRel at *
  rw [map_erase, map_erase, h]
/-- found alike -/
def Found (m : Mu) : Option (Nat × Value) → Option (Nat × Value) → Prop
  | none, none => True
  | some (i, v), some (j, v') => i = j ∧ dn2 m v = some v'
  | _, _ => False
def evNow (d : TypeDesc) (k : Value) : List Ent → Nat → Option (Option (Nat × Value))
  | [], _ => some none
  | e :: es, i =>
    match Instr.sameNow d k e.1 with
    | some true => some (some (i, e.2.1))
    | some false => evNow d k es (i + 1)
    | none => none
theorem evNow_rel {d : TypeDesc} {k : Value} : ∀ (es : List Ent) (es' : List MapEntry) (i : Nat), EntRel m es es' →
    (evNow d k es i = none ∧ Instr.findNow d k es' i = none) ∨ ∃ r r', evNow d k es i = some r ∧ Instr.findNow d k es' i = some r' ∧ Found m r r'
  | [], es', i, h => by
    have := h.length
    cases es' with
    | nil => exact .inr ⟨none, none, rfl, rfl, trivial⟩
    | cons _ _ => simp at this
  | x :: es, es', i, h => by
    cases es' with
    | nil => have := h.length; simp at this
    | cons e es' =>
      obtain ⟨⟨h1, h2, h3⟩, h4⟩ := EntRel.cons.1 h
      simp only [evNow, Instr.findNow, ← h1]
      cases Instr.sameNow d k x.1 with
      | none => exact .inl ⟨rfl, rfl⟩
      | some b =>
        cases b with
        | true => exact .inr ⟨_, _, rfl, rfl, rfl, h2⟩
        | false => exact evNow_rel es es' (i + 1) h4
def evAsk (P : Program) (t : TypeId) (k : Value) : List Ent → Nat → Option (Option (Nat × Value))
  | [], _ => some none
  | e :: es, i =>
    match runPure P (Op.equal t k e.1) with
    | some true => some (some (i, e.2.1))
    | some false => evAsk P t k es (i + 1)
    | none => none
theorem evAsk_rel {t : TypeId} {k : Value} : ∀ (es : List Ent) (es' : List MapEntry) (i : Nat) (r : Option (Nat × Value)), EntRel m es es' → evAsk P t k es i = some r →
    ∃ r', (Instr.findAsking t k es' i).run P w = .ok r' w ∧ Found m r r'
  | [], es', i, r, h, he => by
    have := h.length
    cases es' with
    | nil => cases he; exact ⟨none, rfl, trivial⟩
    | cons _ _ => simp at this
  | x :: es, es', i, r, h, he => by
    cases es' with
    | nil => have := h.length; simp at this
    | cons e es' =>
      obtain ⟨⟨h1, h2, h3⟩, h4⟩ := EntRel.cons.1 h
      simp only [evAsk] at he
      split at he
      · rename_i hp
        cases he
        have hr := runPure_sound hp w
        refine ⟨some (i, e.val), ?_, rfl, h2⟩
        simp only [Instr.findAsking, ← h1, Sem.run_bind, hr, Result.andThen_ok, if_true, Sem.run_pure]
      · rename_i hp
        have hr := runPure_sound hp w
        obtain ⟨r', h5, h6⟩ := evAsk_rel es es' (i + 1) r h4 he
        refine ⟨r', ?_, h6⟩
        simp only [Instr.findAsking, ← h1, Sem.run_bind, hr, Result.andThen_ok, Bool.false_eq_true, if_false, h5]
      · cases he
def evFind (P : Program) (t : TypeId) (k : Value) (es : List Ent) : Option (Option (Nat × Value)) :=
  match P.underlying t with
  | some d => match evNow d k es 0 with
    | some r => some r
    | none => evAsk P t k es 0
  | none => none
theorem evFind_rel {t : TypeId} {k : Value} {es : List Ent} {es' : List MapEntry} {r : Option (Nat × Value)} (h : EntRel m es es') (he : evFind P t k es = some r) : ∃ r', (Instr.findKey t k es').run P w = .ok r' w ∧ Found m r r' := by
  unfold evFind at he
  split at he
  · rename_i d hu
    rcases evNow_rel (d := d) (k := k) es es' 0 h with ⟨h1, h2⟩ | ⟨r1, r2, h1, h2, h3⟩
    · rw [h1] at he
      obtain ⟨r', h5, h6⟩ := evAsk_rel (w := w) es es' 0 r h he
      refine ⟨r', ?_, h6⟩
      simp only [Instr.findKey, Sem.run_bind, run_underlying hu, Result.andThen_ok, h2, h5]
    · rw [h1] at he
      cases he
      refine ⟨r2, ?_, h3⟩
      simp only [Instr.findKey, Sem.run_bind, run_underlying hu, Result.andThen_ok, h2, Sem.run_pure]
  · cases he

def evMakeMap (s : St) : Option (Value × St) := (s.new (.map [] 0)).map fun s' => (.map (some s.nx), s')
theorem evMakeMap_spec {t : TypeId} {v : Value} (h : evMakeMap s = some (v, s')) (hf : Fits FP n0 hi s') (hv : Inv FP n0 hi B m s H w) : Good FP n0 hi B P (Instr.makeMap t none) v m s H w s' := by
  obtain ⟨s1, hs, he⟩ := Option.map_eq_some_iff.1 h
  obtain ⟨rfl, rfl⟩ := Prod.mk.inj he
  obtain ⟨h1, h2⟩ := new_spec hs hf.1 hv 0 (.map #[] 0) ⟨_, #[], upd_same _ _ _, hv.base, heap_alloc_new w _, rfl⟩
  refine ⟨.map (some w.heap.size), _, _, _, ?_, ?_, h1, h2⟩
  · simp [Instr.makeMap, newObj, Sem.run]
  · show (upd m s.nx (some (w.heap.size, 0)) s.nx).map _ = _
    rw [upd_same]; rfl
def answer (ok : Bool) (v : Value) (b : Bool) : Value := if ok then .tuple #[v, .bool b] else v
theorem answer_dn {ok b : Bool} {v v' : Value} (h : dn2 m v = some v') : dn m (answer ok v b) = some (answer ok v' b) := by
  unfold answer
  cases ok with
  | false => exact dn_of_dn2 h
  | true =>
    simp only [if_true, dn, dnL, h]
    rfl
def evLookup (P : Program) (t : TypeId) (x k : Value) (ok : Bool) (s : St) : Option (Value × St) :=
  match P.underlying t, x with
  | some (.map kt et), .map (some r) => match s.look r with
    | some (.map es _, s') => if cl k then
        match runPure P (Instr.checkKey es.isEmpty 10000 kt k), evFind P kt k es with
        | some (), some (some (_, v)) => some (answer ok v true, s')
        | some (), some none => match P.info? et with
          | some i => match i.zero with
            | some z => if cl2 z then some (answer ok z false, s') else none
            | none => none
          | none => none
        | _, _ => none
      else none
    | _ => none
  | _, _ => none
theorem isEmpty_rel {es : List Ent} {es' : Array MapEntry} (h : EntRel m es es'.toList) : es'.isEmpty = es.isEmpty := by
  have := h.length
  cases es with
  | nil => simp_all [Array.isEmpty]
  | cons x es =>
    have h0 : es'.size ≠ 0 := by simp at this; omega
    simp [Array.isEmpty, h0]
theorem evLookup_spec {t : TypeId} {x x' k k' v : Value} {ok : Bool} (h : evLookup P t x k ok s = some (v, s')) (hf : Fits FP n0 hi s') (hv : Inv FP n0 hi B m s H w) (hx : dn m x = some x') (hk : dn m k = some k') :
    Good FP n0 hi B P (Instr.lookup t x' k' ok) v m s H w s' := by
  unfold evLookup at h
  split at h
  · rename_i kt et r hu
    obtain ⟨p, hp, rfl⟩ := dn_mapv hx
    split at h
    · rename_i es clock s1 hl
      split at h
      · rename_i hc
        have e := cl_eq hc hk
        subst e
        have main : ∀ v1, s1 = s' → runPure P (Instr.checkKey es.isEmpty 10000 kt k') = some () → ∀ r0, evFind P kt k' es = some r0 →
            (∀ es' : Array MapEntry, EntRel m es es'.toList → w.heap[p.1]? = some (.map es' clock) → ∀ r', (Instr.findKey kt k' es'.toList).run P w = .ok r' w → Found m r0 r' → ∃ v2, ((match r' with
              | some (_, v) => pure (v, true)
              | none => do pure (← zeroValue et, false) : Sem (Value × Bool)).run P w).andThen (fun y w' => (pure (if ok then .tuple #[y.1, .bool y.2] else y.1) : Sem Value).run P w') = .ok v2 w ∧ dn m v1 = some v2) → v1 = v →
            Good FP n0 hi B P (Instr.lookup t (.map (some p.1)) k' ok) v m s H w s' := by
          rintro v1 rfl hck r0 hfk hz rfl
          obtain ⟨hH, _, hv1, st1, _⟩ := look_spec hl hf hv
          obtain ⟨p', es', hp', _, hh, he⟩ := hv.vw.at_ _ _ hH
          rw [hp] at hp'; cases hp'
          have he : EntRel m es es'.toList := he
          obtain ⟨r', h5, h6⟩ := evFind_rel (w := w) he hfk
          obtain ⟨v2, h7, h8⟩ := hz es' he hh r' h5 h6
          refine ⟨v2, w, m, H, ?_, h8, hv1, st1⟩
          have hg : (getObj p.1).run P w = .ok (.map es' clock) w := by simp [getObj, Sem.run, hh]
          have hck' := runPure_sound hck w
          rw [← isEmpty_rel he] at hck'
          simp only [Instr.lookup, Sem.run_bind, run_underlying hu, Result.andThen_ok, hg, Sem.run_pure, hck', h5]
          rcases r' with _ | ⟨j, u⟩
          · cases hz0 : (zeroValue et).run P w <;> simpa [hz0] using h7
          · simpa using h7
        split at h
        · rename_i v1 hck hfk
          cases h
          refine main _ rfl hck _ hfk (fun es' he hh r' hr hfd => ?_) rfl
          cases r' with
          | none => exact hfd.elim
          | some y =>
            obtain ⟨j, v2⟩ := y
            exact ⟨answer ok v2 true, by simp [answer], answer_dn hfd.2⟩
        · rename_i hck hfk
          split at h
          · rename_i i hi'
            split at h
            · rename_i z hz
              split at h
              · rename_i hcz
                cases h
                refine main _ rfl hck _ hfk (fun es' he hh r' hr hfd => ?_) rfl
                cases r' with
                | some y => exact hfd.elim
                | none => exact ⟨answer ok z false, by simp [answer, zeroValue, run_typeInfo _ hi', hz], answer_dn (cl2_dn hcz m)⟩
              · cases h
            · cases h
          · cases h
        · cases h
      · cases h
    · cases h
  · cases h
/-- a map is written anew -/
theorem map_put {id : Nat} {es es1 : List Ent} {clock clock1 : Nat} {s1 : St} (hH : H id = some (.map es clock)) (hp1 : s1.put id (.map es1 clock1) = some s') (hv : Inv FP n0 hi B m s1 H w) {p : Nat × Nat} (hp : m id = some p) {es2 : Array MapEntry} (he : EntRel m es1 es2.toList) :
    ∃ w', (setObj p.1 (.map es2 clock1)).run P w = .ok () w' ∧ Inv FP n0 hi B m s' (upd H id (some (.map es1 clock1))) w' ∧ Ste B m s1 H w m s' (upd H id (some (.map es1 clock1))) w' := by
  obtain ⟨p', es', hp', hB, hh, _⟩ := hv.vw.at_ _ _ hH
  rw [hp] at hp'; cases hp'
  have hlt := (Array.getElem?_eq_some_iff.1 hh).1
  refine ⟨{ w with heap := w.heap.setIfInBounds p.1 (.map es2 clock1) }, by simp [setObj, Sem.run, hh], ?_⟩
  refine put_spec hp1 hv hH rfl hp (fun k hk => ?_) rfl rfl rfl (by simp) ⟨p, es2, hp, hB, ?_, he⟩
  · show (w.heap.setIfInBounds p.1 _)[k]? = _
    rw [Array.getElem?_setIfInBounds_ne (fun e => hk e.symm)]
  · show (w.heap.setIfInBounds p.1 _)[p.1]? = _
    simp [hlt]
def evMapUpdate (P : Program) (t : TypeId) (x k v : Value) (s : St) : Option (Value × St) :=
  match P.underlying t, x with
  | some (.map kt _), .map (some r) => match s.look r with
    | some (.map es clock, s1) => if cl k && noTup v then
        match runPure P (Instr.checkKey false 10000 kt k), evFind P kt k es with
        | some (), some (some (i, _)) => match es[i]? with
          | some e => if Instr.sameBits 10000 e.1 k then (s1.put r (.map (es.set i (k, v, e.2.2)) clock)).map fun s' => (undef, s') else none
          | none => none
        | some (), some none => (s1.put r (.map (es ++ [(k, v, clock)]) (clock + 1))).map fun s' => (undef, s')
        | _, _ => none
      else none
    | _ => none
  | _, _ => none
theorem evMapUpdate_spec {t : TypeId} {x x' k k' y y' v : Value} (h : evMapUpdate P t x k y s = some (v, s')) (hf : Fits FP n0 hi s') (hv : Inv FP n0 hi B m s H w) (hx : dn m x = some x') (hk : dn m k = some k') (hy : dn m y = some y') :
    v = undef ∧ ∃ w' H', (Instr.mapUpdate t x' k' y').run P w = .ok () w' ∧ Inv FP n0 hi B m s' H' w' ∧ Ste B m s H w m s' H' w' := by
  unfold evMapUpdate at h
  split at h
  · rename_i kt et r hu
    obtain ⟨p, hp, rfl⟩ := dn_mapv hx
    split at h
    · rename_i es clock s1 hl
      split at h
      · rename_i hc
        simp only [Bool.and_eq_true] at hc
        have e := cl_eq hc.1 hk
        subst e
        have hy2 := dn2_of_cells hy (noTup_ne hc.2)
        split at h
        · rename_i i v1 hck hfk
          split at h
          · rename_i e he0
            split at h
            · rename_i hsb
              obtain ⟨s2, hs2, he⟩ := Option.map_eq_some_iff.1 h
              obtain ⟨rfl, rfl⟩ := Prod.mk.inj he
              obtain ⟨hH, _, hv1, st1, _⟩ := look_spec hl (put_fits hs2 hf) hv
              obtain ⟨p', es', hp', _, hh, he⟩ := hv.vw.at_ _ _ hH
              rw [hp] at hp'; cases hp'
              have he : EntRel m es es'.toList := he
              obtain ⟨r', h5, h6⟩ := evFind_rel (w := w) he hfk
              cases r' with
              | none => exact h6.elim
              | some y2 =>
                obtain ⟨j, v2⟩ := y2
                obtain ⟨rfl, _⟩ := h6
                obtain ⟨e', he', k1, k2, k3⟩ := he.at_ he0
                have hj : es'[i]? = some e' := by simpa using he'
                obtain ⟨hlt, hje⟩ := Array.getElem?_eq_some_iff.1 hj
                have hmod : (es'.modify i fun e => { e with key := k', val := y' }).toList = es'.toList.set i { key := k', val := y', born := e'.born } := by
                  apply List.ext_getElem?
                  intro q
                  simp only [Array.getElem?_toList, Array.getElem?_modify, List.getElem?_set, Array.length_toList]
                  by_cases hq : i = q
                  · subst hq; simp [hlt, hje]
                  · simp [hq]
                obtain ⟨w', r1, r2, r3⟩ := map_put (P := P) hH hs2 hv1 hp (es2 := es'.modify i fun e => { e with key := k', val := y' }) (by rw [hmod]; exact he.set i ⟨rfl, hy2, k3⟩)
                refine ⟨rfl, w', _, ?_, r2, st1.trans r3⟩
                have hg : (getObj p.1).run P w = .ok (.map es' clock) w := by simp [getObj, Sem.run, hh]
                have hck' := runPure_sound hck w
                rw [k1] at hsb
                simp only [Instr.mapUpdate, Sem.run_bind, run_underlying hu, Result.andThen_ok, hg, Sem.run_pure, hck', h5, hj, Option.map_some, Option.getD_some, Instr.keyThatStays, hsb, if_true, r1]
            · cases h
          · cases h
        · rename_i hck hfk
          obtain ⟨s2, hs2, he⟩ := Option.map_eq_some_iff.1 h
          obtain ⟨rfl, rfl⟩ := Prod.mk.inj he
          obtain ⟨hH, _, hv1, st1, _⟩ := look_spec hl (put_fits hs2 hf) hv
          obtain ⟨p', es', hp', _, hh, he⟩ := hv.vw.at_ _ _ hH
          rw [hp] at hp'; cases hp'
          have he : EntRel m es es'.toList := he
          obtain ⟨r', h5, h6⟩ := evFind_rel (w := w) he hfk
          cases r' with
          | some _ => exact h6.elim
          | none =>
            obtain ⟨w', r1, r2, r3⟩ := map_put (P := P) hH hs2 hv1 hp (es2 := es'.push { key := k', val := y', born := clock }) (by rw [Array.toList_push]; exact he.append ⟨rfl, hy2, rfl⟩)
            refine ⟨rfl, w', _, ?_, r2, st1.trans r3⟩
            have hg : (getObj p.1).run P w = .ok (.map es' clock) w := by simp [getObj, Sem.run, hh]
            have hck' := runPure_sound hck w
            simp only [Instr.mapUpdate, Sem.run_bind, run_underlying hu, Result.andThen_ok, hg, Sem.run_pure, hck', h5, r1]
        · cases h
      · cases h
    · cases h
  · cases h
def evDelete (P : Program) (t : TypeId) (x k : Value) (s : St) : Option (Value × St) :=
  match P.underlying t, x with
  | some (.map kt _), .map (some r) => match s.look r with
    | some (.map es clock, s1) => if cl k then
        match runPure P (Instr.checkKey es.isEmpty 10000 kt k), evFind P kt k es with
        | some (), some (some (i, _)) => (s1.put r (.map (es.eraseIdx i) clock)).map fun s' => (undef, s')
        | some (), some none => (s1.put r (.map es clock)).map fun s' => (undef, s')
        | _, _ => none
      else none
    | _ => none
  | _, _ => none
theorem evDelete_spec {t u ty : TypeId} {x x' k k' v : Value} (h : evDelete P t x k s = some (v, s')) (hf : Fits FP n0 hi s') (hv : Inv FP n0 hi B m s H w) (hx : dn m x = some x') (hk : dn m k = some k') :
    Good FP n0 hi B P (Builtin.delete_ #[t, u] ty #[x', k']) v m s H w s' := by
  unfold evDelete at h
  split at h
  · rename_i kt et r hu
    obtain ⟨p, hp, rfl⟩ := dn_mapv hx
    split at h
    · rename_i es clock s1 hl
      split at h
      · rename_i hc
        have e := cl_eq hc hk
        subst e
        split at h
        · rename_i i v1 hck hfk
          obtain ⟨s2, hs2, he⟩ := Option.map_eq_some_iff.1 h
          obtain ⟨rfl, rfl⟩ := Prod.mk.inj he
          obtain ⟨hH, _, hv1, st1, _⟩ := look_spec hl (put_fits hs2 hf) hv
          obtain ⟨p', es', hp', _, hh, he⟩ := hv.vw.at_ _ _ hH
          rw [hp] at hp'; cases hp'
          have he : EntRel m es es'.toList := he
          obtain ⟨r', h5, h6⟩ := evFind_rel (w := w) he hfk
          cases r' with
          | none => exact h6.elim
          | some y2 =>
            obtain ⟨j, v2⟩ := y2
            obtain ⟨rfl, _⟩ := h6
            obtain ⟨w', r1, r2, r3⟩ := map_put (P := P) hH hs2 hv1 hp (es2 := es'.eraseIdxIfInBounds i) (by rw [Array.toList_eraseIdxIfInBounds]; exact he.erase i)
            refine ⟨undef, w', m, _, ?_, rfl, r2, st1.trans r3⟩
            have hg : (getObj p.1).run P w = .ok (.map es' clock) w := by simp [getObj, Sem.run, hh]
            have hck' := runPure_sound hck w
            rw [← isEmpty_rel he] at hck'
            simp [Builtin.delete_, run_underlying hu, hg, hck', h5, r1, undef]
        · rename_i hck hfk
          obtain ⟨s2, hs2, he⟩ := Option.map_eq_some_iff.1 h
          obtain ⟨rfl, rfl⟩ := Prod.mk.inj he
          obtain ⟨hH, _, hv1, st1, _⟩ := look_spec hl (put_fits hs2 hf) hv
          obtain ⟨p', es', hp', _, hh, he⟩ := hv.vw.at_ _ _ hH
          rw [hp] at hp'; cases hp'
          have he : EntRel m es es'.toList := he
          obtain ⟨r', h5, h6⟩ := evFind_rel (w := w) he hfk
          cases r' with
          | some _ => exact h6.elim
          | none =>
            obtain ⟨w', r1, r2, r3⟩ := map_put (P := P) hH hs2 hv1 hp (es2 := es') he
            refine ⟨undef, w', m, _, ?_, rfl, r2, st1.trans r3⟩
            have hg : (getObj p.1).run P w = .ok (.map es' clock) w := by simp [getObj, Sem.run, hh]
            have hck' := runPure_sound hck w
            rw [← isEmpty_rel he] at hck'
            simp [Builtin.delete_, run_underlying hu, hg, hck', h5, r1, undef]
        · cases h
      · cases h
    · cases h
  · cases h
def isIface : TypeDesc → Bool
  | .interface _ => true
  | _ => false
def evAssert (P : Program) (x : Value) (a : TypeId) (ok : Bool) : Option Value :=
  match P.underlying a, x with
  | some d, .iface t v => if isIface d then none else if Nat.beq t a then some (answer ok v true) else if ok then
      match P.info? a with
      | some i => match i.zero with
        | some z => if cl2 z then some (answer true z false) else none
        | none => none
      | none => none
    else none
  | _, _ => none
theorem evAssert_spec {x x' v : Value} {xt a : TypeId} {ok : Bool} (h : evAssert P x a ok = some v) (hv : Inv FP n0 hi B m s H w) (hx : dn m x = some x') : Good FP n0 hi B P (Instr.typeAssert x' xt a ok) v m s H w s := by
  unfold evAssert at h
  split at h
  · rename_i d t v1 hu
    obtain ⟨v2, hv2, rfl⟩ := Option.map_eq_some_iff.1 (show (dn0 m v1).map _ = some x' from hx)
    have hd2 : dn2 m v1 = some v2 := by
      apply dn2_of_dn1
      unfold dn1
      split
      · simp [dn0] at hv2
      · simp [dn0] at hv2
      · exact hv2
    split at h
    · cases h
    · rename_i hi'
      split at h
      · rename_i hta
        have hta : t = a := Nat.eq_of_beq_eq_true hta
        subst hta
        cases h
        refine Good.same ?_ (answer_dn hd2) hv
        cases d <;> first
          | (exact absurd rfl hi'; done)
          | simp [Instr.typeAssert, run_underlying hu, answer]
      · rename_i hta
        have hta : ¬ t = a := fun e => hta (by rw [e]; simp)
        split at h
        · rename_i hok
          subst hok
          split at h
          · rename_i i hii
            split at h
            · rename_i z hz
              split at h
              · rename_i hcz
                cases h
                refine Good.same ?_ (answer_dn (cl2_dn hcz m)) hv
                cases d <;> first
                  | (exact absurd rfl hi'; done)
                  | simp [Instr.typeAssert, run_underlying hu, answer, hta, zeroValue, run_typeInfo _ hii, hz]
              · cases h
            · cases h
          · cases h
        · cases h
  · cases h
def evMakeIface (P : Program) (t : TypeId) (x : Value) : Option Value :=
  match P.underlying t with
  | some d => if isIface d then none else if leaf x then some (.iface t x) else none
  | none => none
theorem evMakeIface_spec {x x' v : Value} {t : TypeId} (h : evMakeIface P t x = some v) (hv : Inv FP n0 hi B m s H w) (hx : dn m x = some x') : Good FP n0 hi B P (Instr.makeInterface t x') v m s H w s := by
  unfold evMakeIface at h
  split at h
  · rename_i d hu
    split at h
    · cases h
    · rename_i hi'
      split at h
      · rename_i hl
        cases h
        have := leaf_dn hl hx
        refine Good.same (v' := .iface t x') ?_ (dn_of_dn1 (by simp [dn1, this])) hv
        cases d <;> first
          | (exact absurd rfl hi'; done)
          | simp [Instr.makeInterface, run_underlying hu]
      · cases h
  · cases h
end
end Go.Ev
