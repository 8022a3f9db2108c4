/-
  An evaluator of closed runs, second part: its state, and how it goes with the world.
-/
import Derived.Test.YtgndpodeedjohaaEvA
namespace Go.Ev
open Go.RowKit
set_option linter.unusedSimpArgs false
set_option linter.unnecessarySimpa false
set_option linter.unusedVariables false

structure St where
  hp : Tr RO
  nx : Nat
  ac : Nat
  wr : Nat
def top : Nat := 1000000
def St.look (s : St) (id : Nat) : Option (RO × St) :=
  if Nat.blt id s.nx then (s.hp.get id).map fun o => (o, { s with ac := s.ac ||| 2 ^ id }) else none
def St.put (s : St) (id : Nat) (ro : RO) : Option St :=
  if Nat.blt id s.nx && Nat.blt s.nx top then some { hp := Tr.set 40 s.hp id ro, nx := s.nx, ac := s.ac ||| 2 ^ id, wr := s.wr ||| 2 ^ id } else none
def St.new (s : St) (ro : RO) : Option St :=
  if Nat.blt s.nx top then some { hp := Tr.set 40 s.hp s.nx ro, nx := s.nx + 1, ac := s.ac, wr := s.wr } else none

structure Inv (FP : Nat → Prop) (n0 hi B : Nat) (m : Mu) (s : St) (H : Nat → Option RO) (w : World) : Prop where
  vw : Vw m B H w
  cp : ∀ id, id < hi → (FP id ∨ n0 ≤ id) → s.hp.get id = H id
  fr : ∀ id, s.nx ≤ id → id < hi → m id = none ∧ H id = none
  lo : n0 ≤ s.nx
  base : B ≤ w.heap.size
structure Ste (B : Nat) (m : Mu) (s : St) (H : Nat → Option RO) (w : World) (m' : Mu) (s' : St) (H' : Nat → Option RO) (w' : World) : Prop where
  ext : Le m m'
  only : ∀ i, (i < s.nx ∨ s'.nx ≤ i) → m' i = m i
  keep : ∀ i, (i < s.nx ∨ s'.nx ≤ i) → s'.wr.testBit i = false → H' i = H i
  bel : Below B w w'
  nx : s.nx ≤ s'.nx
  ac : ∀ i, s.ac.testBit i = true → s'.ac.testBit i = true
  wr : ∀ i, s.wr.testBit i = true → s'.wr.testBit i = true
  wa : (∀ i, s.wr.testBit i = true → s.ac.testBit i = true) → ∀ i, s'.wr.testBit i = true → s'.ac.testBit i = true
theorem Ste.refl (B : Nat) (m : Mu) (s : St) (H : Nat → Option RO) (w : World) : Ste B m s H w m s H w :=
  ⟨Le.refl m, fun _ _ => rfl, fun _ _ _ => rfl, Below.refl _ _, Nat.le_refl _, fun _ h => h, fun _ h => h, fun h => h⟩
theorem Ste.trans {B : Nat} {m m1 m2 : Mu} {s s1 s2 : St} {H H1 H2 : Nat → Option RO} {w w1 w2 : World} (h : Ste B m s H w m1 s1 H1 w1) (k : Ste B m1 s1 H1 w1 m2 s2 H2 w2) : Ste B m s H w m2 s2 H2 w2 := by
  have n1 := h.nx
  have n2 := k.nx
  refine ⟨h.ext.trans k.ext, fun i hi => ?_, fun i hi hw => ?_, h.bel.trans k.bel, Nat.le_trans n1 n2, fun i e => k.ac i (h.ac i e), fun i e => k.wr i (h.wr i e), fun e => k.wa (h.wa e)⟩
  · rw [k.only i (by omega), h.only i (by omega)]
  · have h1 : s1.wr.testBit i = false := by
      cases e : s1.wr.testBit i with
      | false => rfl
      | true => rw [k.wr i e] at hw; cases hw
    rw [k.keep i (by omega) hw, h.keep i (by omega) h1]
/-- what is looked at lies in the print -/
def Fits (FP : Nat → Prop) (n0 hi : Nat) (s : St) : Prop := s.nx ≤ hi ∧ ∀ i, s.ac.testBit i = true → i < n0 → FP i
theorem Fits.back {FP : Nat → Prop} {n0 hi B : Nat} {m m1 : Mu} {s s1 : St} {H H1 : Nat → Option RO} {w w1 : World} (h : Ste B m s H w m1 s1 H1 w1) (k : Fits FP n0 hi s1) : Fits FP n0 hi s :=
  ⟨Nat.le_trans h.nx k.1, fun i e hi => k.2 i (h.ac i e) hi⟩

theorem bit_or (a i j : Nat) : (a ||| 2 ^ i).testBit j = (a.testBit j || decide (i = j)) := by
  rw [Nat.testBit_or, Nat.testBit_two_pow]
section
variable {FP : Nat → Prop} {n0 hi B : Nat} {m : Mu} {s s' : St} {H : Nat → Option RO} {w : World} {id : Nat} {ro : RO}
theorem look_spec (h : s.look id = some (ro, s')) (hf : Fits FP n0 hi s') (hv : Inv FP n0 hi B m s H w) :
    H id = some ro ∧ id < s.nx ∧ Inv FP n0 hi B m s' H w ∧ Ste B m s H w m s' H w ∧ s'.hp = s.hp ∧ s'.nx = s.nx := by
  unfold St.look at h
  split at h
  · rename_i hlt
    have hlt : id < s.nx := by simp [Nat.blt] at hlt; omega
    obtain ⟨o, ho, he⟩ := Option.map_eq_some_iff.1 h
    obtain ⟨rfl, rfl⟩ := Prod.mk.inj he
    refine ⟨?_, hlt, ⟨hv.vw, hv.cp, hv.fr, hv.lo, hv.base⟩, ⟨Le.refl m, fun _ _ => rfl, fun _ _ _ => rfl, Below.refl _ _, Nat.le_refl _, fun i e => ?_, fun _ e => e, fun e i k => ?_⟩, rfl, rfl⟩
    · rw [← hv.cp id (Nat.lt_of_lt_of_le hlt hf.1) ?_]; exact ho
      by_cases hn : n0 ≤ id
      · exact .inr hn
      · exact .inl (hf.2 id (by show (s.ac ||| 2 ^ id).testBit id = true; rw [bit_or]; simp) (by omega))
    · show (s.ac ||| 2 ^ id).testBit i = true
      rw [bit_or, e]; rfl
    · show (s.ac ||| 2 ^ id).testBit i = true
      rw [bit_or, e i k]; rfl
  · cases h
/-- a thing is written anew -/
theorem put_spec (h : s.put id ro = some s') (hv : Inv FP n0 hi B m s H w) {ro0 : RO} (h0 : H id = some ro0) (hl : ro0.live = true) {p : Nat × Nat} (hp : m id = some p) {w' : World}
    (hw : ∀ k, k ≠ p.1 → w'.heap[k]? = w.heap[k]?) (hos : w'.os = w.os) (htape : w'.tape = w.tape) (hout : w'.output = w.output) (hsz : w'.heap.size = w.heap.size) (hMt : Mt m B id w' ro) :
    Inv FP n0 hi B m s' (upd H id (some ro)) w' ∧ Ste B m s H w m s' (upd H id (some ro)) w' := by
  unfold St.put at h
  split at h
  · rename_i hlt
    have hlt : id < s.nx ∧ s.nx < top := by simp [Nat.blt] at hlt; omega
    cases h
    have hB := (hv.vw.at_ id ro0 h0).lt hl hp
    have hid : id + 1 < 2 ^ 40 := by have := hlt.1; have := hlt.2; unfold top at this; omega
    refine ⟨⟨⟨fun j rj hj => ?_, fun i j ri rj q r hi hj li lj hq hr e => ?_⟩, fun j hj hj' => ?_, fun j hj hj' => ?_, hv.lo, by rw [hsz]; exact hv.base⟩,
      ⟨Le.refl m, fun _ _ => rfl, fun i hi hwr => ?_, ⟨hos, htape, hout, Nat.le_of_eq hsz.symm, fun k hk => hw k (by omega)⟩, Nat.le_refl _, fun i e => ?_, fun i e => ?_, fun e i k => ?_⟩⟩
    · by_cases hji : j = id
      · subst hji; rw [upd_same] at hj; cases hj; exact hMt
      · rw [upd_ne _ _ hji] at hj
        refine (hv.vw.at_ j rj hj).mono (Le.refl m) (fun q lq hq hBq => hw _ fun e => hji ?_)
        exact hv.vw.inj j id rj ro0 q p hj h0 lq hl hq hp e
    · have gi : ∃ ri0, H i = some ri0 ∧ ri0.live = true := by
        by_cases e : i = id
        · subst e; exact ⟨ro0, h0, hl⟩
        · rw [upd_ne _ _ e] at hi; exact ⟨ri, hi, li⟩
      have gj : ∃ rj0, H j = some rj0 ∧ rj0.live = true := by
        by_cases e : j = id
        · subst e; exact ⟨ro0, h0, hl⟩
        · rw [upd_ne _ _ e] at hj; exact ⟨rj, hj, lj⟩
      obtain ⟨ri0, hi0, li0⟩ := gi
      obtain ⟨rj0, hj0, lj0⟩ := gj
      exact hv.vw.inj i j ri0 rj0 q r hi0 hj0 li0 lj0 hq hr e
    · show (Tr.set 40 s.hp id ro).get j = _
      rw [Tr.get_set _ _ _ _ _ hid]
      by_cases e : j = id
      · rw [if_pos e, e, upd_same]
      · rw [if_neg e, upd_ne _ _ e]; exact hv.cp j hj hj'
    · have hj : s.nx ≤ j := hj
      rw [upd_ne _ _ (by omega)]
      exact hv.fr j hj hj'
    · have hwr : (s.wr ||| 2 ^ id).testBit i = false := hwr
      rw [bit_or] at hwr
      by_cases e : i = id
      · subst e; simp at hwr
      · rw [upd_ne _ _ e]
    · show (s.ac ||| 2 ^ id).testBit i = true
      rw [bit_or, e]; rfl
    · show (s.wr ||| 2 ^ id).testBit i = true
      rw [bit_or, e]; rfl
    · have k : (s.wr ||| 2 ^ id).testBit i = true := k
      show (s.ac ||| 2 ^ id).testBit i = true
      rw [bit_or] at k ⊢
      rw [Bool.or_eq_true] at k ⊢
      exact k.imp (e i) (fun h => h)
  · cases h
/-- a thing is made: in a new block -/
theorem new_spec (h : s.new ro = some s') (hf : s'.nx ≤ hi) (hv : Inv FP n0 hi B m s H w) (c : Nat) (o : Obj) (hMt : Mt (upd m s.nx (some (w.heap.size, c))) B s.nx (w.alloc o) ro) :
    Inv FP n0 hi B (upd m s.nx (some (w.heap.size, c))) s' (upd H s.nx (some ro)) (w.alloc o) ∧ Ste B m s H w (upd m s.nx (some (w.heap.size, c))) s' (upd H s.nx (some ro)) (w.alloc o) := by
  unfold St.new at h
  split at h
  · rename_i hlt
    have hlt : s.nx < top := by simp [Nat.blt] at hlt; omega
    cases h
    have hf : s.nx + 1 ≤ hi := hf
    have hid : s.nx + 1 < 2 ^ 40 := by unfold top at hlt; omega
    obtain ⟨hm0, hH0⟩ := hv.fr s.nx (Nat.le_refl _) (by omega)
    have hle : Le m (upd m s.nx (some (w.heap.size, c))) := fun i p hi => by
      by_cases e : i = s.nx
      · subst e; rw [hm0] at hi; cases hi
      · rw [upd_ne _ _ e]; exact hi
    refine ⟨⟨⟨fun j rj hj => ?_, fun i j ri rj q r hi hj li lj hq hr e => ?_⟩, fun j hj hj' => ?_, fun j hj hj' => ?_, Nat.le_succ_of_le hv.lo, by rw [World.size_alloc]; exact Nat.le_succ_of_le hv.base⟩,
      ⟨hle, fun i hi => ?_, fun i hi hwr => ?_, (Below.refl B w).alloc hv.base o, Nat.le_succ _, fun i e => e, fun i e => e, fun e => e⟩⟩
    · by_cases hji : j = s.nx
      · subst hji; rw [upd_same] at hj; cases hj; exact hMt
      · rw [upd_ne _ _ hji] at hj
        refine (hv.vw.at_ j rj hj).mono hle (fun q lq hq hBq => Below.heap_alloc w o q.1 ?_)
        exact ((hv.vw.at_ j rj hj).lt lq hq).2
    · have old : ∀ {k rk : _} {u : Nat × Nat}, k ≠ s.nx → upd H s.nx (some ro) k = some rk → rk.live = true → upd m s.nx (some (w.heap.size, c)) k = some u → H k = some rk ∧ m k = some u ∧ u.1 < w.heap.size := by
        intro k rk u hk h1 h2 h3
        rw [upd_ne _ _ hk] at h1 h3
        exact ⟨h1, h3, ((hv.vw.at_ k rk h1).lt h2 h3).2⟩
      by_cases ei : i = s.nx
      · by_cases ej : j = s.nx
        · rw [ei, ej]
        · obtain ⟨_, _, h3⟩ := old ej hj lj hr
          rw [ei, upd_same] at hq; cases hq
          simp only at e; omega
      · obtain ⟨g1, g2, g3⟩ := old ei hi li hq
        by_cases ej : j = s.nx
        · rw [ej, upd_same] at hr; cases hr
          simp only at e; omega
        · obtain ⟨k1, k2, _⟩ := old ej hj lj hr
          exact hv.vw.inj i j ri rj q r g1 k1 li lj g2 k2 e
    · show (Tr.set 40 s.hp s.nx ro).get j = _
      rw [Tr.get_set _ _ _ _ _ hid]
      by_cases e : j = s.nx
      · rw [if_pos e, e, upd_same]
      · rw [if_neg e, upd_ne _ _ e]; exact hv.cp j hj hj'
    · have hj : s.nx + 1 ≤ j := hj
      rw [upd_ne _ _ (by omega), upd_ne _ _ (by omega)]
      exact hv.fr j (by omega) hj'
    · have hi : i < s.nx ∨ s.nx + 1 ≤ i := hi
      rw [upd_ne _ _ (by omega)]
    · have hi : i < s.nx ∨ s.nx + 1 ≤ i := hi
      rw [upd_ne _ _ (by omega)]
  · cases h
end
end Go.Ev
