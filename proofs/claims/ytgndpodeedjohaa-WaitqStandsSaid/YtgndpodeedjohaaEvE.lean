/-
  An evaluator of closed runs, fifth part: values put together and taken apart, and lists that grow.
-/
import Derived.Test.YtgndpodeedjohaaEvD
namespace Go.Ev
open Go.RowKit
set_option linter.unusedSimpArgs false
set_option linter.unnecessarySimpa false
set_option linter.unusedVariables false

section
variable {FP : Nat → Prop} {n0 hi B : Nat} {m : Mu} {s s' : St} {H : Nat → Option RO} {w : World} {P : Program}

theorem dnL_set {f : Value → Option Value} {l l' : List Value} {v v' : Value} (h : dnL f l = some l') (k : f v = some v') (i : Nat) : dnL f (l.set i v) = some (l'.set i v') := by
  rw [dnL_iff] at *
  rw [List.map_set, List.map_set, h, k]
theorem fold_rel {f : Value → Option Value} (o : Nat) : ∀ (vs vs' : List Value) (k : Nat) (A A' : Array Value), dnL f vs = some vs' → dnL f A.toList = some A'.toList →
    dnL f ((vs.zipIdx k).foldl (fun cs (c, j) => cs.setIfInBounds (o + j) c) A).toList = some ((vs'.zipIdx k).foldl (fun cs (c, j) => cs.setIfInBounds (o + j) c) A').toList
  | [], vs', k, A, A', h, hA => by simp [dnL] at h; subst h; simpa using hA
  | v :: vs, vs', k, A, A', h, hA => by
    simp only [dnL] at h
    split at h
    · rename_i x xs h1 h2
      cases h
      simp only [List.zipIdx_cons, List.foldl_cons]
      refine fold_rel o vs xs (k + 1) _ _ h2 ?_
      simp only [Array.toList_setIfInBounds]
      exact dnL_set hA h1 _
    · cases h
theorem fill_rel (place : Nat → Option (Nat × Nat)) (ρ ρ' : Operand → Value) : ∀ (ps : List (Nat × Operand)) (A A' r : Array Value), (∀ x ∈ ps, dn2 m (ρ x.2) = some (ρ' x.2)) → dnL (dn1 m) A.toList = some A'.toList →
    Instr.fill place A (ps.map fun (i, x) => (i, ρ x)) = some r → ∃ r', Instr.fill place A' (ps.map fun (i, x) => (i, ρ' x)) = some r' ∧ dnL (dn1 m) r.toList = some r'.toList
  | [], A, A', r, _, hA, h => by
    simp only [List.map_nil, Instr.fill] at h ⊢
    cases h
    exact ⟨_, rfl, hA⟩
  | (i, x) :: ps, A, A', r, hp, hA, h => by
    simp only [List.map_cons, Instr.fill] at h ⊢
    cases hpl : place i with
    | none => rw [hpl] at h; cases h
    | some q =>
      obtain ⟨off, size⟩ := q
      rw [hpl] at h
      simp only at h ⊢
      have hx := dn2_cells (hp (i, x) (by simp))
      have e1 : (ρ' x).cells.size = (ρ x).cells.size := by simpa using dnL_length hx
      have e2 : A'.size = A.size := by simpa using dnL_length hA
      rw [e1, e2]
      split at h
      · cases h
      · rename_i hc
        rw [if_neg hc]
        refine fill_rel place ρ ρ' ps _ _ r (fun y hy => hp y (by simp [hy])) ?_ h
        have := fold_rel (f := dn1 m) off (ρ x).cells.toList (ρ' x).cells.toList 0 A A' hx hA
        rw [← Array.foldl_toList, ← Array.foldl_toList]
        simpa using this
def noTup : Value → Bool
  | .tuple _ => false
  | _ => true
theorem noTup_ne {v : Value} (h : noTup v = true) : ∀ vs, v ≠ .tuple vs := by
  intro vs e
  subst e
  cases h
theorem zero_cells {z : Value} (h : cl2 z = true) : dnL (dn1 m) z.cells.toList = some z.cells.toList := dn2_cells (cl2_dn h m)
def places (P : Program) (fs : Array Field) : Option (Array (Nat × Nat)) := runPure P (fs.mapM fun f => do pure (f.offset, ← sizeOf f.type))
def evBuild (P : Program) (t : TypeId) (ps : Array (Nat × Operand)) (ρ : Operand → Value) : Option Value :=
  match P.underlying t, P.info? t with
  | some (.struct fs), some i => match i.zero, places P fs with
    | some z, some pl => if cl2 z && ps.toList.all (fun x => noTup (ρ x.2)) then (Instr.fill (pl[·]?) z.cells (ps.toList.map fun (i, x) => (i, ρ x))).map fun a => .agg a else none
    | _, _ => none
  | some (.array _ e), some i => match i.zero, P.info? e with
    | some z, some o => if cl2 z && ps.toList.all (fun x => noTup (ρ x.2)) then (Instr.fill (fun i => some (i * o.size, o.size)) z.cells (ps.toList.map fun (i, x) => (i, ρ x))).map fun a => .agg a else none
    | _, _ => none
  | _, _ => none
theorem evBuild_spec {t : TypeId} {ps : Array (Nat × Operand)} {ρ ρ' : Operand → Value} {v : Value} (h : evBuild P t ps ρ = some v) (hv : Inv FP n0 hi B m s H w) (hd : ∀ x ∈ ps, dn m (ρ x.2) = some (ρ' x.2)) :
    Good FP n0 hi B P (Instr.build t (ps.map fun (i, x) => (i, ρ' x))) v m s H w s := by
  unfold evBuild at h
  split at h
  · rename_i fs i hu hi'
    split at h
    · rename_i z pl hz hpl
      split at h
      · rename_i hc
        simp only [Bool.and_eq_true, List.all_eq_true] at hc
        obtain ⟨a, ha, rfl⟩ := Option.map_eq_some_iff.1 h
        obtain ⟨r', hr, hd'⟩ := fill_rel (m := m) (pl[·]?) ρ ρ' ps.toList z.cells z.cells a (fun x hx => dn2_of_cells (hd x (by simpa using hx)) (noTup_ne (hc.2 x hx))) (zero_cells hc.1) ha
        refine Good.same (v' := .agg r') ?_ (dn_of_dn2 (by simp [dn2, hd'])) hv
        have hp := runPure_sound (P := P) (show runPure P _ = some pl from hpl) w
        have e : (ps.map fun (i, x) => (i, ρ' x)).toList = ps.toList.map fun (i, x) => (i, ρ' x) := by simp
        simp only [Instr.build, zeroValue, Sem.run_bind, run_typeInfo _ hi', Result.andThen_ok, hz, Sem.run_pure, run_underlying hu, hp, e, hr]
      · cases h
    · cases h
  · rename_i n e i hu hi'
    split at h
    · rename_i z o hz ho
      split at h
      · rename_i hc
        simp only [Bool.and_eq_true, List.all_eq_true] at hc
        obtain ⟨a, ha, rfl⟩ := Option.map_eq_some_iff.1 h
        obtain ⟨r', hr, hd'⟩ := fill_rel (m := m) (fun i => some (i * o.size, o.size)) ρ ρ' ps.toList z.cells z.cells a (fun x hx => dn2_of_cells (hd x (by simpa using hx)) (noTup_ne (hc.2 x hx))) (zero_cells hc.1) ha
        refine Good.same (v' := .agg r') ?_ (dn_of_dn2 (by simp [dn2, hd'])) hv
        have e : (ps.map fun (i, x) => (i, ρ' x)).toList = ps.toList.map fun (i, x) => (i, ρ' x) := by simp
        simp only [Instr.build, zeroValue, Sem.run_bind, run_typeInfo _ hi', Result.andThen_ok, hz, Sem.run_pure, run_underlying hu, sizeOf, run_typeInfo _ ho, e, hr]
      · cases h
    · cases h
  · cases h
/-- so many times the zero value's cells -/
def zeros (n : Nat) (z : Array Value) : Array Value := (Array.range n).map (z[· % z.size]!)
theorem zeros_dn {z : Value} (h : cl2 z = true) (n : Nat) : dnL (dn1 m) (zeros n (if n = 0 then #[] else z.cells)).toList = some (zeros n (if n = 0 then #[] else z.cells)).toList := by
  by_cases hn : n = 0
  · subst hn; simp [zeros, dnL]
  · rw [if_neg hn]
    rw [dnL_iff]
    simp only [zeros, Array.toList_map, List.map_map]
    apply List.map_congr_left
    intro i _
    have hz := zero_cells (m := m) h
    simp only [Function.comp]
    by_cases h0 : z.cells.size = 0
    · have e : z.cells = #[] := by simpa using h0
      rw [e]
      rfl
    · have hlt : i % z.cells.size < z.cells.size := Nat.mod_lt _ (by omega)
      obtain ⟨v', hv', hd⟩ := dnL_at hz (i := i % z.cells.size) (v := z.cells[i % z.cells.size]) (by simp [hlt])
      have : v' = z.cells[i % z.cells.size] := by simp [hlt] at hv'; exact hv'.symm
      rw [getElem!_pos z.cells (i % z.cells.size) hlt]
      rw [this] at hd
      exact hd
def evBuildSlice (P : Program) (t : TypeId) (len : Nat) (ps : Array (Nat × Operand)) (ρ : Operand → Value) (s : St) : Option (Value × St) :=
  match P.underlying t with
  | some (.slice e) => match P.info? e with
    | some o => match o.zero with
      | some z => if cl2 z && ps.toList.all (fun x => noTup (ρ x.2)) && Nat.ble (len * o.size) 16777216 && Nat.blt len unk then
          match Instr.fill (fun i => some (i * o.size, o.size)) (zeros (len * o.size) (if len * o.size = 0 then #[] else z.cells)) (ps.toList.map fun (i, x) => (i, ρ x)) with
          | some a => (s.new (.cells a.toList e 0)).map fun s' => (.slice (some ⟨s.nx, 0, none⟩) len len, s')
          | none => none
        else none
      | none => none
    | none => none
  | _ => none
theorem evBuildSlice_spec {t : TypeId} {len : Nat} {ps : Array (Nat × Operand)} {ρ ρ' : Operand → Value} {v : Value} (h : evBuildSlice P t len ps ρ s = some (v, s')) (hf : Fits FP n0 hi s') (hv : Inv FP n0 hi B m s H w) (hd : ∀ x ∈ ps, dn m (ρ x.2) = some (ρ' x.2)) :
    Good FP n0 hi B P (Instr.buildSlice t len (ps.map fun (i, x) => (i, ρ' x))) v m s H w s' := by
  unfold evBuildSlice at h
  split at h
  · rename_i e hu
    split at h
    · rename_i o ho
      split at h
      · rename_i z hz
        split at h
        · rename_i hc
          simp only [Bool.and_eq_true, List.all_eq_true, Nat.ble_eq, blt_iff] at hc
          obtain ⟨⟨⟨hcz, hct⟩, hle⟩, hlt⟩ := hc
          split at h
          · rename_i a ha
            obtain ⟨s1, hs, he⟩ := Option.map_eq_some_iff.1 h
            obtain ⟨rfl, rfl⟩ := Prod.mk.inj he
            obtain ⟨r', hr, hd'⟩ := fill_rel (m := m) (fun i => some (i * o.size, o.size)) ρ ρ' ps.toList _ _ a (fun x hx => dn2_of_cells (hd x (by simpa using hx)) (noTup_ne (hct x hx))) (zeros_dn hcz (len * o.size)) ha
            obtain ⟨m', H', g1, g2, g3⟩ := row_new hs hf.1 hv hd'
            refine ⟨_, _, m', H', ?_, mk_slice g1, g2, g3⟩
            have e1 : (ps.map fun (i, x) => (i, ρ' x)).toList = ps.toList.map fun (i, x) => (i, ρ' x) := by simp
            have hle' : ¬ 2 ^ 24 < len * o.size := by omega
            rw [capOf_lt hlt]
            simp only [zeros] at hr
            by_cases h0 : len * o.size = 0
            · have e0 : ∀ f : Nat → Value, (Array.range 0).map f = #[] := fun f => by simp
              simp only [h0, if_true, e0] at hr
              simp only [Instr.buildSlice, Sem.run_bind, run_underlying hu, Result.andThen_ok, sizeOf, run_typeInfo _ ho, Sem.run_pure, gt_iff_lt, hle', if_false, h0, if_true, e1, e0, hr, newRow]
              simp [newObj, Sem.run]
            · simp only [h0, if_false] at hr
              simp only [Instr.buildSlice, Sem.run_bind, run_underlying hu, Result.andThen_ok, sizeOf, run_typeInfo _ ho, Sem.run_pure, gt_iff_lt, hle', if_false, h0, zeroValue, hz, e1, hr, newRow]
              simp [newObj, Sem.run]
          · cases h
        · cases h
      · cases h
    · cases h
  · cases h
def evMakeSlice (P : Program) (t : TypeId) (len cap : Value) (s : St) : Option (Value × St) :=
  match P.underlying t, len, cap with
  | some (.slice e), .int _ l, .int _ c => match P.info? e with
    | some o => match o.zero with
      | some z => if cl2 z && decide (0 ≤ l) && decide (l ≤ c) && decide (c ≤ 16777216) && decide (o.bytes * c ≤ 140737488355328) then
          (s.new (.cells (zeros (c.toNat * o.size) (if c.toNat * o.size = 0 then #[] else z.cells)).toList e 0)).map fun s' => (.slice (some ⟨s.nx, 0, none⟩) l.toNat c.toNat, s')
        else none
      | none => none
    | none => none
  | _, _, _ => none
theorem evMakeSlice_spec {t : TypeId} {x y x' y' v : Value} (h : evMakeSlice P t x y s = some (v, s')) (hf : Fits FP n0 hi s') (hv : Inv FP n0 hi B m s H w) (hx : dn m x = some x') (hy : dn m y = some y') :
    Good FP n0 hi B P (Instr.makeSlice t x' y') v m s H w s' := by
  unfold evMakeSlice at h
  split at h
  · rename_i e k1 l k2 c hu
    cases hx
    cases hy
    split at h
    · rename_i o ho
      split at h
      · rename_i z hz
        split at h
        · rename_i hc
          simp only [Bool.and_eq_true, decide_eq_true_eq] at hc
          obtain ⟨⟨⟨⟨hcz, h0⟩, hlc⟩, hcm⟩, hby⟩ := hc
          obtain ⟨s1, hs, he⟩ := Option.map_eq_some_iff.1 h
          obtain ⟨rfl, rfl⟩ := Prod.mk.inj he
          obtain ⟨m', H', g1, g2, g3⟩ := row_new hs hf.1 hv (zeros_dn hcz (c.toNat * o.size))
          rw [Array.toArray_toList] at g2 g3
          refine ⟨_, _, m', H', ?_, mk_slice g1, g2, g3⟩
          have wl : IntKind.i64.wrap l = l := by rw [IntKind.wrap_i64]; omega
          have wc : IntKind.i64.wrap c = c := by rw [IntKind.wrap_i64]; omega
          have hcu : c.toNat < unk := by unfold unk; omega
          rw [capOf_lt hcu]
          have t1 : decide (c < 0) = false := decide_eq_false (by omega)
          have t2 : decide (281474976710656 < (o.bytes : Int) * c) = false := decide_eq_false (by omega)
          have t3 : decide (l < 0) = false := decide_eq_false (by omega)
          have t4 : decide (c < l) = false := decide_eq_false (by omega)
          have t5 : ¬ 140737488355328 < c.toNat * o.bytes := by
            have e1 : ((c.toNat * o.bytes : Nat) : Int) = (o.bytes : Int) * c := by
              rw [Int.natCast_mul, Int.toNat_of_nonneg (by omega), Int.mul_comm]
            omega
          simp only [Instr.makeSlice, Sem.run_bind, run_underlying hu, Result.andThen_ok, asInt, asIntOf, Sem.run_pure, run_typeInfo _ ho, wl, wc, gt_iff_lt, t1, t3, t4, Bool.or_self, Bool.false_or, Bool.or_false, askRoom, roomBytes]
          have p1 : (2 : Int) ^ 48 = 281474976710656 := by decide
          have p2 : 2 ^ 47 = 140737488355328 := by decide
          simp only [p1, p2, t2, t5, Bool.or_self, Bool.false_eq_true, if_false, Sem.run_pure, Result.andThen_ok, sizeOf, run_typeInfo _ ho, Sem.run_bind]
          by_cases hn : c.toNat * o.size = 0
          · have e0 : ∀ f : Nat → Value, (Array.range 0).map f = #[] := fun f => by simp
            simp only [hn, if_true, Sem.run_pure, Result.andThen_ok, e0, newRow, zeros]
            simp [newObj, Sem.run]
          · simp only [hn, if_false, zeroValue, Sem.run_bind, run_typeInfo _ ho, hz, Sem.run_pure, Result.andThen_ok, newRow, zeros]
            simp [newObj, Sem.run]
        · cases h
      · cases h
    · cases h
  · cases h
def evPart (P : Program) (t : TypeId) (cs : Array Value) (o : Nat) : Option Value :=
  match P.underlying t, P.info? t with
  | some d, some i => if aggD d then (if Nat.ble (o + i.size) cs.size then some (.agg (cs.extract o (o + i.size))) else none) else cs[o]?
  | _, _ => none
theorem evPart_spec {t : TypeId} {cs cs' : Array Value} {o : Nat} {v : Value} (h : evPart P t cs o = some v) (hd : dnL (dn1 m) cs.toList = some cs'.toList) : ∃ v', (part t cs' o).run P w = .ok v' w ∧ dn m v = some v' := by
  unfold evPart at h
  split at h
  · rename_i d i hu hi'
    split at h
    · rename_i hag
      split at h
      · rename_i hle
        cases h
        refine ⟨.agg (cs'.extract o (o + i.size)), ?_, ?_⟩
        · simp only [part, Sem.run_bind, run_isAgg hu, Result.andThen_ok, hag, if_true, sizeOf, run_typeInfo _ hi', Sem.run_pure]
        · apply dn_of_dn2
          have := dnL_take (dnL_drop hd o) i.size
          simp only [dn2]
          rw [show (cs.extract o (o + i.size)).toList = (cs.toList.drop o).take i.size by simp [List.extract_eq_take_drop]]
          rw [this]
          simp only [Option.map_some]
          congr 2
          apply Array.ext'
          simp [List.extract_eq_take_drop]
      · cases h
    · rename_i hag
      have hag : aggD d = false := by simpa using hag
      obtain ⟨v', hv', hdv⟩ := dnL_at hd (i := o) (v := v) (by simpa using h)
      refine ⟨v', ?_, dn_of_dn1 hdv⟩
      have : cs'[o]? = some v' := by simpa using hv'
      simp only [part, Sem.run_bind, run_isAgg hu, Result.andThen_ok, hag, Bool.false_eq_true, if_false, this, Sem.run_pure]
  · cases h
theorem dn_agg {cs : Array Value} {v' : Value} (h : dn m (.agg cs) = some v') : ∃ l : List Value, v' = .agg l.toArray ∧ dnL (dn1 m) cs.toList = some l := by
  obtain ⟨l, hl, rfl⟩ := Option.map_eq_some_iff.1 (show (dnL (dn1 m) cs.toList).map _ = some v' from h)
  exact ⟨l, rfl, hl⟩
def evFieldV (P : Program) (t : TypeId) (v : Value) (f : Nat) : Option Value :=
  match P.underlying t, v with
  | some (.struct fs), .agg cs => match fs[f]? with
    | some fl => evPart P fl.type cs fl.offset
    | none => none
  | _, _ => none
theorem evFieldV_spec {t : TypeId} {x x' v : Value} {f : Nat} (h : evFieldV P t x f = some v) (hv : Inv FP n0 hi B m s H w) (hx : dn m x = some x') : Good FP n0 hi B P (Instr.field t x' f) v m s H w s := by
  unfold evFieldV at h
  split at h
  · rename_i fs cs hu
    obtain ⟨l, rfl, hl⟩ := dn_agg hx
    split at h
    · rename_i fl hfl
      obtain ⟨v', h1, h2⟩ := evPart_spec (w := w) (cs' := l.toArray) h (by simpa using hl)
      refine Good.same ?_ h2 hv
      simp only [Instr.field, Sem.run_bind, run_underlying hu, Result.andThen_ok, hfl, asAgg, Sem.run_pure, h1]
    · cases h
  · cases h
def evIndexV (P : Program) (t : TypeId) (v x : Value) : Option Value :=
  match P.underlying t, v, x with
  | some (.array n e), .agg cs, .int _ i => match P.info? e with
    | some o => if decide (0 ≤ i) && decide (i < n) then evPart P e cs (i.toNat * o.size) else none
    | none => none
  | _, _, _ => none
theorem evIndexV_spec {t : TypeId} {x x' y y' v : Value} (h : evIndexV P t x y = some v) (hv : Inv FP n0 hi B m s H w) (hx : dn m x = some x') (hy : dn m y = some y') : Good FP n0 hi B P (Instr.index t x' y') v m s H w s := by
  unfold evIndexV at h
  split at h
  · rename_i n e cs k i hu
    obtain ⟨l, rfl, hl⟩ := dn_agg hx
    cases hy
    split at h
    · rename_i o ho
      split at h
      · rename_i hb
        simp only [Bool.and_eq_true, decide_eq_true_eq] at hb
        obtain ⟨v', h1, h2⟩ := evPart_spec (w := w) (cs' := l.toArray) h (by simpa using hl)
        refine Good.same ?_ h2 hv
        simp only [Instr.index, Sem.run_bind, asIntOf, Sem.run_pure, run_underlying hu, Result.andThen_ok, hb, and_self, if_true, sizeOf, run_typeInfo _ ho, h1]
      · cases h
    · cases h
  · cases h
def evExtract (v : Value) (i : Nat) : Option Value :=
  match v with
  | .tuple vs => vs[i]?
  | _ => none
theorem evExtract_spec {x x' v : Value} {i : Nat} (h : evExtract x i = some v) (hv : Inv FP n0 hi B m s H w) (hx : dn m x = some x') : Good FP n0 hi B P (Instr.extract x' i) v m s H w s := by
  unfold evExtract at h
  split at h
  · rename_i vs
    obtain ⟨l, hl, rfl⟩ := Option.map_eq_some_iff.1 (show (dnL (dn2 m) vs.toList).map _ = some x' from hx)
    obtain ⟨v', hv', hd⟩ := dnL_at hl (i := i) (v := v) (by simpa using h)
    refine Good.same ?_ (dn_of_dn2 hd) hv
    simp [Instr.extract, hv']
  · cases h
def leaf : Value → Bool
  | .func _ _ _ | .iface _ _ | .agg _ | .tuple _ => false
  | _ => true
theorem leaf_dn {v v' : Value} (h : leaf v = true) (hd : dn m v = some v') : dn0 m v = some v' := by
  cases v <;> first | exact hd | (cases h)
theorem map_leaf {ρ ρ' : Operand → Value} : ∀ (xs : List Operand), (∀ x ∈ xs, leaf (ρ x) = true) → (∀ x ∈ xs, dn m (ρ x) = some (ρ' x)) → dnL (dn0 m) (xs.map ρ) = some (xs.map ρ')
  | [], _, _ => rfl
  | x :: xs, h1, h2 => by
    simp only [List.map_cons, dnL]
    rw [leaf_dn (h1 x (by simp)) (h2 x (by simp)), map_leaf xs (fun y hy => h1 y (by simp [hy])) (fun y hy => h2 y (by simp [hy]))]
def evMakeFunc (fn : Fn) (a c : Array Operand) (ρ : Operand → Value) : Option Value :=
  if a.toList.all (fun x => leaf (ρ x)) && c.toList.all (fun x => leaf (ρ x)) then some (.func fn (a.toList.map ρ).toArray (c.toList.map ρ).toArray) else none
theorem evMakeFunc_spec {fn : Fn} {a c : Array Operand} {ρ ρ' : Operand → Value} {v : Value} (h : evMakeFunc fn a c ρ = some v) (hv : Inv FP n0 hi B m s H w) (h1 : ∀ x ∈ a, dn m (ρ x) = some (ρ' x)) (h2 : ∀ x ∈ c, dn m (ρ x) = some (ρ' x)) :
    Good FP n0 hi B P (Instr.makeFunc fn (a.map ρ') (c.map ρ')) v m s H w s := by
  unfold evMakeFunc at h
  split at h
  · rename_i hc
    simp only [Bool.and_eq_true, List.all_eq_true] at hc
    cases h
    refine Good.same (v' := .func fn (a.map ρ') (c.map ρ')) rfl (dn_of_dn1 ?_) hv
    simp only [dn1, map_leaf a.toList hc.1 (fun x hx => h1 x (by simpa using hx)), map_leaf c.toList hc.2 (fun x hx => h2 x (by simpa using hx))]
    have e : ∀ b : Array Operand, (List.map ρ' b.toList).toArray = Array.map ρ' b := fun b => by apply Array.ext'; simp
    rw [e, e]
  · cases h
end
end Go.Ev
