/-
  An evaluator of closed runs, sixth part: nil, append, copy, len.
-/
import Derived.Test.YtgndpodeedjohaaEvE
namespace Go.Ev
open Go.RowKit
set_option linter.unusedSimpArgs false
set_option linter.unnecessarySimpa false
set_option linter.unusedVariables false

section
variable {FP : Nat → Prop} {n0 hi B : Nat} {m : Mu} {s s' : St} {H : Nat → Option RO} {w : World} {P : Program}

/-- one is nil, the other is not -/
def nilPair (d : TypeDesc) (x y : Value) : Bool :=
  match d, x, y with
  | .pointer _, .pointer (some _), .pointer none => true
  | .pointer _, .pointer none, .pointer (some _) => true
  | .slice _, .slice (some _) _ _, .slice none _ _ => true
  | .slice _, .slice none _ _, .slice (some _) _ _ => true
  | .map _ _, .map (some _), .map none => true
  | .map _ _, .map none, .map (some _) => true
  | .func _ _ _, .func _ _ _, .nilFunc => true
  | .func _ _ _, .nilFunc, .func _ _ _ => true
  | .interface _, .iface _ _, .nilIface => true
  | .interface _, .nilIface, .iface _ _ => true
  | _, _, _ => false
theorem nilPair_dn {d : TypeDesc} {x y x' y' : Value} (h : nilPair d x y = true) (hx : dn m x = some x') (hy : dn m y = some y') : nilPair d x' y' = true := by
  unfold nilPair at h
  split at h
  · obtain ⟨p, _, rfl⟩ := dn_ptr hx; cases hy; rfl
  · obtain ⟨p, _, rfl⟩ := dn_ptr hy; cases hx; rfl
  · obtain ⟨p, _, rfl⟩ := dn_slice hx; cases hy; rfl
  · obtain ⟨p, _, rfl⟩ := dn_slice hy; cases hx; rfl
  · obtain ⟨p, _, rfl⟩ := dn_mapv hx; cases hy; rfl
  · obtain ⟨p, _, rfl⟩ := dn_mapv hy; cases hx; rfl
  · rename_i fn a c
    have : dn1 m (.func fn a c) = some x' := hx
    simp only [dn1] at this
    split at this
    · cases this; cases hy; rfl
    · cases this
  · rename_i fn a c
    have : dn1 m (.func fn a c) = some y' := hy
    simp only [dn1] at this
    split at this
    · cases this; cases hx; rfl
    · cases this
  · obtain ⟨p, _, rfl⟩ := Option.map_eq_some_iff.1 (show (dn0 m _).map _ = some x' from hx); cases hy; rfl
  · obtain ⟨p, _, rfl⟩ := Option.map_eq_some_iff.1 (show (dn0 m _).map _ = some y' from hy); cases hx; rfl
  · cases h
theorem run_nilPair {d : TypeDesc} {t : TypeId} {x y : Value} (h : nilPair d x y = true) (hu : P.underlying t = some d) (n : Nat) : (Op.equalIn (n + 1) t x y).run P w = .ok false w := by
  unfold nilPair at h
  split at h <;> first
    | (cases h; done)
    | simp [Op.equalIn, run_underlying hu]
def evCmp (P : Program) (op : BinOp) (t : TypeId) (x y : Value) : Option Value :=
  match P.underlying t with
  | some d => if nilPair d x y then (match op with
    | .eql => some (.bool false)
    | .neq => some (.bool true)
    | _ => none) else none
  | none => none
theorem evCmp_spec {op : BinOp} {t : TypeId} {a b : Operand} {x y x' y' v : Value} (h : evCmp P op t x y = some v) (hv : Inv FP n0 hi B m s H w) (hx : dn m x = some x') (hy : dn m y = some y') :
    Good FP n0 hi B P (do eqGuard op t a b x' y'; binOp op t x' y') v m s H w s := by
  unfold evCmp at h
  split at h
  · rename_i d hu
    split at h
    · rename_i hn
      have hn' := nilPair_dn hn hx hy
      have he : (Op.equal t x' y').run P w = .ok false w := run_nilPair hn' hu 9999
      have hg : (eqGuard op t a b x' y').run P w = .ok () w := by
        clear h
        unfold nilPair at hn'
        split at hn' <;> first
          | (cases hn'; done)
          | (cases op <;> rfl)
      split at h
      · cases h
        refine Good.same (v' := .bool false) ?_ rfl hv
        have hb : binOp .eql t x' y' = (do pure (.bool (← Op.equal t x' y'))) := by
          unfold nilPair at hn'
          split at hn' <;> first | rfl | (cases hn'; done)
        rw [Sem.run_bind, hg, Result.andThen_ok, hb, Sem.run_bind, he]
        rfl
      · cases h
        refine Good.same (v' := .bool true) ?_ rfl hv
        have hb : binOp .neq t x' y' = (do pure (.bool (!(← Op.equal t x' y')))) := by
          unfold nilPair at hn'
          split at hn' <;> first | rfl | (cases hn'; done)
        rw [Sem.run_bind, hg, Result.andThen_ok, hb, Sem.run_bind, he]
        rfl
      · cases h
    · cases h
  · cases h

theorem Inv.heap {w' : World} (h : Inv FP n0 hi B m s H w) (e : w'.heap = w.heap) : Inv FP n0 hi B m s H w' :=
  ⟨⟨fun id ro hr => (h.vw.at_ id ro hr).mono (Le.refl m) (fun p _ _ _ => by rw [e]), h.vw.inj⟩, h.cp, h.fr, h.lo, by rw [e]; exact h.base⟩
theorem Ste.heap {w' : World} (e : w'.heap = w.heap) (h1 : w'.os = w.os) (h2 : w'.tape = w.tape) (h3 : w'.output = w.output) : Ste B m s H w m s H w' :=
  ⟨Le.refl m, fun _ _ => rfl, fun _ _ _ => rfl, ⟨h1, h2, h3, by rw [e]; exact Nat.le_refl _, fun k _ => by rw [e]⟩, Nat.le_refl _, fun _ h => h, fun _ h => h, fun h => h⟩
/-- what stood under one name stands under another, the old one is no more -/
theorem move_spec {id : Nat} {ro0 ro : RO} {s1 s2 : St} (h1 : s.put id .dead = some s1) (h2 : s1.new ro = some s2) (hf : s2.nx ≤ hi) (hv : Inv FP n0 hi B m s H w) (h0 : H id = some ro0) (hl : ro0.live = true) {p : Nat × Nat} (hp : m id = some p) {w' : World}
    (hw : ∀ k, k ≠ p.1 → w'.heap[k]? = w.heap[k]?) (hos : w'.os = w.os) (htape : w'.tape = w.tape) (hout : w'.output = w.output) (hsz : w'.heap.size = w.heap.size) (c : Nat) (hMt : Mt (upd m s1.nx (some (p.1, c))) B s1.nx w' ro) :
    ∃ m' H', m' s1.nx = some (p.1, c) ∧ Inv FP n0 hi B m' s2 H' w' ∧ Ste B m s H w m' s2 H' w' := by
  obtain ⟨hv1, st1⟩ := put_spec h1 hv h0 hl hp hw hos htape hout hsz (ro := .dead) trivial
  have hB := (hv.vw.at_ id ro0 h0).lt hl hp
  have hlive : ∀ j rj q, upd H id (some .dead) j = some rj → rj.live = true → m j = some q → q.1 ≠ p.1 := by
    intro j rj q hj lj hq e
    by_cases hji : j = id
    · subst hji; rw [upd_same] at hj; cases hj; cases lj
    · rw [upd_ne _ _ hji] at hj
      exact hji (hv.vw.inj j id rj ro0 q p hj h0 lj hl hq hp e)
  generalize upd H id (some RO.dead) = H1 at *
  unfold St.new at h2
  split at h2
  · rename_i hlt
    have hlt : s1.nx < top := blt_iff.1 hlt
    cases h2
    have hf : s1.nx + 1 ≤ hi := hf
    have hid : s1.nx + 1 < 2 ^ 40 := by unfold top at hlt; omega
    obtain ⟨hm0, hH0⟩ := hv1.fr s1.nx (Nat.le_refl _) (by omega)
    have hle : Le m (upd m s1.nx (some (p.1, c))) := fun i q hi => by
      by_cases e : i = s1.nx
      · subst e; rw [hm0] at hi; cases hi
      · rw [upd_ne _ _ e]; exact hi
    refine ⟨_, upd H1 s1.nx (some ro), upd_same _ _ _, ⟨⟨fun j rj hj => ?_, fun i j ri rj q r hi hj li lj hq hr e => ?_⟩, fun j hj hj' => ?_, fun j hj hj' => ?_, Nat.le_succ_of_le hv1.lo, hv1.base⟩,
      st1.trans ⟨hle, fun i hi => ?_, fun i hi hwr => ?_, Below.refl _ _, Nat.le_succ _, fun i e => e, fun i e => e, fun e => e⟩⟩
    · by_cases hji : j = s1.nx
      · subst hji; rw [upd_same] at hj; cases hj; exact hMt
      · rw [upd_ne _ _ hji] at hj
        exact (hv1.vw.at_ j rj hj).mono hle (fun q lq hq hBq => rfl)
    · by_cases ei : i = s1.nx
      · by_cases ej : j = s1.nx
        · rw [ei, ej]
        · rw [ei, upd_same] at hq; cases hq
          rw [upd_ne _ _ ej] at hj hr
          exact absurd e.symm (hlive j rj r hj lj hr)
      · rw [upd_ne _ _ ei] at hi hq
        by_cases ej : j = s1.nx
        · rw [ej, upd_same] at hr; cases hr
          exact absurd e (hlive i ri q hi li hq)
        · rw [upd_ne _ _ ej] at hj hr
          exact hv1.vw.inj i j ri rj q r hi hj li lj hq hr e
    · show (Tr.set 40 s1.hp s1.nx ro).get j = _
      rw [Tr.get_set _ _ _ _ _ hid]
      by_cases e : j = s1.nx
      · rw [if_pos e, e, upd_same]
      · rw [if_neg e, upd_ne _ _ e]; exact hv1.cp j hj hj'
    · have hj : s1.nx + 1 ≤ j := hj
      rw [upd_ne _ _ (by omega), upd_ne _ _ (by omega)]
      exact hv1.fr j (by omega) hj'
    · have hi : i < s1.nx ∨ s1.nx + 1 ≤ i := hi
      rw [upd_ne _ _ (by omega)]
    · have hi : i < s1.nx ∨ s1.nx + 1 ≤ i := hi
      rw [upd_ne _ _ (by omega)]
  · cases h2
end
end Go.Ev
