/-
  An evaluator of closed runs, fourth part: more operations.
-/
import Derived.Test.YtgndpodeedjohaaEvC
namespace Go.Ev
open Go.RowKit
set_option linter.unusedSimpArgs false
set_option linter.unnecessarySimpa false
set_option linter.unusedVariables false

/-- what asks the program alone -/
def runPure {α : Type} (P : Program) : Sem α → Option α
  | .pure a => some a
  | .program k => runPure P (k P)
  | _ => none
theorem runPure_sound {α : Type} {P : Program} : ∀ {x : Sem α} {a : α}, runPure P x = some a → ∀ w, x.run P w = .ok a w
  | .pure b, a, h, w => by simp only [runPure] at h; cases h; rfl
  | .program k, a, h, w => by simp only [runPure] at h; exact runPure_sound h w
  | .load .., _, h, _ => by cases h
  | .store .., _, h, _ => by cases h
  | .new .., _, h, _ => by cases h
  | .shape .., _, h, _ => by cases h
  | .freeze .., _, h, _ => by cases h
  | .frozen .., _, h, _ => by cases h
  | .getObj .., _, h, _ => by cases h
  | .setObj .., _, h, _ => by cases h
  | .choose .., _, h, _ => by cases h
  | .sys .., _, h, _ => by cases h
  | .mark .., _, h, _ => by cases h
  | .halt .., _, h, _ => by cases h

section
variable {FP : Nat → Prop} {n0 hi B : Nat} {m : Mu} {s s' : St} {H : Nat → Option RO} {w : World} {P : Program}
theorem Good.same {x : Sem Value} {v v' : Value} (hr : x.run P w = .ok v' w) (hd : dn m v = some v') (hv : Inv FP n0 hi B m s H w) : Good FP n0 hi B P x v m s H w s :=
  ⟨v', w, m, H, hr, hd, hv, Ste.refl _ _ _ _ _⟩

/-- a new row -/
theorem row_new {cs cs' : List Value} {e : TypeId} (h : s.new (.cells cs e 0) = some s') (hf : s'.nx ≤ hi) (hv : Inv FP n0 hi B m s H w) (hd : dnL (dn1 m) cs = some cs') :
    ∃ m' H', m' s.nx = some (w.heap.size, 0) ∧ Inv FP n0 hi B m' s' H' (w.alloc (.cells cs'.toArray e)) ∧ Ste B m s H w m' s' H' (w.alloc (.cells cs'.toArray e)) := by
  have hn0 := (hv.fr s.nx (Nat.le_refl _) (by
    unfold St.new at h; split at h
    · cases h; exact hf
    · cases h)).1
  have hle : Le m (upd m s.nx (some (w.heap.size, 0))) := fun i p hi => by
    by_cases e : i = s.nx
    · subst e; rw [hn0] at hi; cases hi
    · rw [upd_ne _ _ e]; exact hi
  obtain ⟨h1, h2⟩ := new_spec h hf hv 0 (.cells cs'.toArray e) ⟨_, cs'.toArray, cs', upd_same _ _ _, hv.base, heap_alloc_new w _, dnL_mono (fun _ _ => dn1_mono hle) hd, by simp, fun _ => by simp, fun h => absurd rfl h⟩
  exact ⟨_, _, upd_same _ _ _, h1, h2⟩
def evAlloc (P : Program) (e : TypeId) (s : St) : Option (Value × St) :=
  match P.info? e with
  | some i => match i.zero with
    | some z => if cl2 z then (s.new (.cells z.cells.toList e 0)).map fun s' => (.pointer (some ⟨s.nx, 0, none⟩), s') else none
    | none => none
  | none => none
theorem evAlloc_spec {e : TypeId} {v : Value} (h : evAlloc P e s = some (v, s')) (hf : Fits FP n0 hi s') (hv : Inv FP n0 hi B m s H w) : Good FP n0 hi B P (Instr.alloc e true (.tuple #[])) v m s H w s' := by
  unfold evAlloc at h
  split at h
  · rename_i i hi'
    split at h
    · rename_i z hz
      split at h
      · rename_i hc
        obtain ⟨s1, hs, he⟩ := Option.map_eq_some_iff.1 h
        obtain ⟨rfl, rfl⟩ := Prod.mk.inj he
        obtain ⟨m', H', g1, g2, g3⟩ := row_new hs hf.1 hv (dn2_cells (cl2_dn hc m))
        refine ⟨_, _, m', H', ?_, mk_ptr g1, g2, g3⟩
        simp [Instr.alloc, zeroValue, run_typeInfo _ hi', hz, newVar, newRow]
      · cases h
    · cases h
  · cases h
def evBox (e : TypeId) (x : Value) (s : St) : Option (Value × St) :=
  match x with
  | .tuple _ => none
  | x => (s.new (.cells x.cells.toList e 0)).map fun s' => (.pointer (some ⟨s.nx, 0, none⟩), s')
theorem evBox_spec {e : TypeId} {x x' v : Value} (h : evBox e x s = some (v, s')) (hf : Fits FP n0 hi s') (hv : Inv FP n0 hi B m s H w) (hx : dn m x = some x') : Good FP n0 hi B P (Instr.box e x') v m s H w s' := by
  unfold evBox at h
  split at h
  · cases h
  · rename_i hnt
    obtain ⟨s1, hs, he⟩ := Option.map_eq_some_iff.1 h
    obtain ⟨rfl, rfl⟩ := Prod.mk.inj he
    obtain ⟨m', H', g1, g2, g3⟩ := row_new hs hf.1 hv (dn2_cells (dn2_of_cells hx (fun vs e => hnt vs e)))
    refine ⟨_, _, m', H', ?_, mk_ptr g1, g2, g3⟩
    simp [Instr.box, newVar, newRow]
theorem dn_add {p : Nat × Nat} {a : Addr} (h : m a.block = some p) (n : Nat) : dn m (.pointer (some (a.add n))) = some (.pointer (some ((⟨p.1, a.off, a.spot⟩ : Addr).add n))) := by
  unfold Addr.add
  split
  · exact mk_ptr h
  · exact mk_ptr (a := ⟨a.block, a.off + n, none⟩) h
def evField (P : Program) (t : TypeId) (v : Value) (f : Nat) : Option Value :=
  match v, P.underlying t with
  | .pointer (some a), some (.struct fs) => match fs[f]? with
    | some fl => match P.info? fl.type with
      | some i => if Nat.beq i.size 0 then none else some (.pointer (some (a.add fl.offset)))
      | none => none
    | none => none
  | _, _ => none
theorem evField_spec {t : TypeId} {x x' v : Value} {f : Nat} (h : evField P t x f = some v) (hv : Inv FP n0 hi B m s H w) (hx : dn m x = some x') : Good FP n0 hi B P (Instr.fieldAt t x' f) v m s H w s := by
  unfold evField at h
  split at h
  · rename_i a fs hu
    obtain ⟨p, hp, rfl⟩ := dn_ptr hx
    split at h
    · rename_i fl hfl
      split at h
      · rename_i i hi'
        split at h
        · cases h
        · rename_i hz
          cases h
          have hz : ¬ i.size = 0 := fun e => hz (by rw [e]; rfl)
          refine Good.same ?_ (dn_add hp _) hv
          simp [Instr.fieldAt, run_underlying hu, hfl, Instr.sureAddr, fieldPlace, sizeOf, run_typeInfo _ hi', hz]
      · cases h
    · cases h
  · cases h
def evIndexAt (P : Program) (t : TypeId) (v x : Value) : Option Value :=
  match P.underlying t, v, x with
  | some (.slice e), .slice (some a) n _, .int _ i => match P.info? e with
    | some o => if decide (0 ≤ i) && decide (i < n) then some (.pointer (some (a.add (i.toNat * o.size)))) else none
    | none => none
  | some (.array n e), .pointer (some a), .int _ i => match P.info? e with
    | some o => if decide (0 ≤ i) && decide (i < n) then some (.pointer (some (a.add (i.toNat * o.size)))) else none
    | none => none
  | _, _, _ => none
theorem evIndexAt_spec {t : TypeId} {x x' y y' v : Value} (h : evIndexAt P t x y = some v) (hv : Inv FP n0 hi B m s H w) (hx : dn m x = some x') (hy : dn m y = some y') : Good FP n0 hi B P (Instr.indexAt t x' y') v m s H w s := by
  unfold evIndexAt at h
  split at h
  · rename_i e a n c k i hu
    obtain ⟨p, hp, rfl⟩ := dn_slice hx
    cases hy
    split at h
    · rename_i o ho
      split at h
      · rename_i hb
        simp only [Bool.and_eq_true, decide_eq_true_eq] at hb
        cases h
        refine Good.same ?_ (dn_add hp _) hv
        simp [Instr.indexAt, asIntOf, run_underlying hu, hb, sizeOf, run_typeInfo _ ho]
      · cases h
    · cases h
  · rename_i n e a k i hu
    obtain ⟨p, hp, rfl⟩ := dn_ptr hx
    cases hy
    split at h
    · rename_i o ho
      split at h
      · rename_i hb
        simp only [Bool.and_eq_true, decide_eq_true_eq] at hb
        cases h
        refine Good.same ?_ (dn_add hp _) hv
        simp [Instr.indexAt, asIntOf, run_underlying hu, hb, sizeOf, run_typeInfo _ ho, Instr.sureAddr]
      · cases h
    · cases h
  · cases h
def natOf (x : Option Value) (d : Nat) : Option Nat :=
  match x with
  | none => some d
  | some (.int _ i) => if decide (0 ≤ i) then some i.toNat else none
  | _ => none
/-- a number, or nothing, is the same in both -/
def SameInt (x x' : Option Value) : Prop := (x = none → x' = none) ∧ ∀ k i, x = some (.int k i) → x' = some (.int k i)
theorem natOf_spec {x x' : Option Value} {d k : Nat} (h : natOf x d = some k) (hs : SameInt x x') : (x' = none ∧ k = d) ∨ ∃ q i, x' = some (.int q i) ∧ 0 ≤ i ∧ k = i.toNat := by
  unfold natOf at h
  split at h
  · cases h; exact .inl ⟨hs.1 rfl, rfl⟩
  · rename_i q i
    split at h
    · rename_i h0
      cases h
      exact .inr ⟨q, i, hs.2 q i rfl, of_decide_eq_true h0, rfl⟩
    · cases h
  · cases h
theorem run_bounds {b : Bool} {n c l h : Nat} {lo hi lo' hi' : Option Value} (hlo : natOf lo 0 = some l) (hhi : natOf hi n = some h) (slo : SameInt lo lo') (shi : SameInt hi hi') (h1 : l ≤ h) (h2 : h ≤ c) :
    (Instr.sliceBounds b n c lo' hi' none).run P w = .ok (l, h, c) w := by
  rcases natOf_spec hlo slo with ⟨rfl, rfl⟩ | ⟨q, i, rfl, hi0, rfl⟩
  · rcases natOf_spec hhi shi with ⟨rfl, rfl⟩ | ⟨q, i, rfl, hi0, rfl⟩
    · simp [Instr.sliceBounds]
    · have : i ≤ c := by omega
      simp [Instr.sliceBounds, Instr.sliceBound, asIntOf, hi0, this]
  · rcases natOf_spec hhi shi with ⟨rfl, rfl⟩ | ⟨q', i', rfl, hi0', rfl⟩
    · have : i ≤ h := by omega
      simp [Instr.sliceBounds, Instr.sliceBound, asIntOf, hi0, this]
    · have e1 : i ≤ i' := by omega
      have e2 : i' ≤ c := by omega
      have e3 : i ≤ max i' 0 := by omega
      simp [Instr.sliceBounds, Instr.sliceBound, asIntOf, hi0, hi0', e1, e2, e3]
/-- 's[l:h]' of a row whose room is known -/
def evSlice (P : Program) (t : TypeId) (v : Value) (lo hi mx : Option Value) : Option Value :=
  match P.underlying t, v, mx with
  | some (.slice e), .slice (some a) n c, none => match P.info? e, natOf lo 0, natOf hi n with
    | some o, some l, some h => if Nat.ble l h && Nat.ble h c && Nat.blt c unk then some (.slice (some (if c = l then a else a.add (l * o.size))) (h - l) (c - l)) else none
    | _, _, _ => none
  | some (.array n e), .pointer (some a), none => match P.info? e, natOf lo 0, natOf hi n with
    | some o, some l, some h => if Nat.ble l h && Nat.ble h n && Nat.blt n unk then some (.slice (some (if n = l then a else a.add (l * o.size))) (h - l) (n - l)) else none
    | _, _, _ => none
  | _, _, _ => none
theorem capOf_lt {c k : Nat} (h : k < unk) : capOf c k = k := by
  unfold capOf
  rw [if_neg]
  intro e
  have := Nat.le_of_ble_eq_true e
  omega
theorem dn_addS {p : Nat × Nat} {a : Addr} (h : m a.block = some p) (c l k n j : Nat) (hj : j < unk) : dn m (.slice (some (if c = l then a else a.add k)) n j) = some (.slice (some (if c = l then ⟨p.1, a.off, a.spot⟩ else (⟨p.1, a.off, a.spot⟩ : Addr).add k)) n j) := by
  split
  · rw [mk_slice h, capOf_lt hj]
  · unfold Addr.add
    split
    · rw [mk_slice h, capOf_lt hj]
    · rw [mk_slice (a := ⟨a.block, a.off + k, none⟩) h, capOf_lt hj]
theorem blt_iff {a b : Nat} : Nat.blt a b = true ↔ a < b := by simp [Nat.blt]; omega
theorem evSlice_spec {t : TypeId} {x x' v : Value} {lo hi' mx lo' hi'' mx' : Option Value} (h : evSlice P t x lo hi' mx = some v) (hv : Inv FP n0 hi B m s H w) (hx : dn m x = some x')
    (slo : SameInt lo lo') (shi : SameInt hi' hi'') (smx : SameInt mx mx') : Good FP n0 hi B P (Instr.sliceAt t x' lo' hi'' mx') v m s H w s := by
  unfold evSlice at h
  split at h
  · rename_i e a n c hu
    obtain ⟨p, hp, rfl⟩ := dn_slice hx
    rw [smx.1 rfl]
    split at h
    · rename_i o l k ho hl hk
      split at h
      · rename_i hb
        simp only [Bool.and_eq_true, Nat.ble_eq, blt_iff] at hb
        cases h
        have hc : capOf p.2 c = c := capOf_lt hb.2
        rw [hc]
        refine Good.same ?_ (dn_addS hp c l (l * o.size) (k - l) (c - l) (by omega)) hv
        have hr := run_bounds (P := P) (w := w) (b := true) (c := c) hl hk slo shi hb.1.1 hb.1.2
        simp only [Instr.sliceAt, Instr.slice, run_underlying hu, Sem.run_bind, Sem.run_pure, Result.andThen_ok, hr, sizeOf, run_typeInfo _ ho]
        by_cases e : c = l <;> simp [e]
      · cases h
    · cases h
  · rename_i n e a hu
    obtain ⟨p, hp, rfl⟩ := dn_ptr hx
    rw [smx.1 rfl]
    split at h
    · rename_i o l k ho hl hk
      split at h
      · rename_i hb
        simp only [Bool.and_eq_true, Nat.ble_eq, blt_iff] at hb
        cases h
        refine Good.same ?_ (dn_addS hp n l (l * o.size) (k - l) (n - l) (by omega)) hv
        have hr := run_bounds (P := P) (w := w) (b := false) (n := n) (c := n) hl hk slo shi hb.1.1 hb.1.2
        simp only [Instr.sliceAt, Instr.sureAddr, run_underlying hu, Sem.run_bind, Sem.run_pure, Result.andThen_ok, hr, sizeOf, run_typeInfo _ ho]
      · cases h
    · cases h
  · cases h
end
end Go.Ev
