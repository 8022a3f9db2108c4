/-
  An evaluator of closed runs: a call that comes out true; arguments opened.
-/
import Derived.Test.YtkdiibgjkipdnaaEvL
import Derived.LoopN
import Derived.Scope
import Derived.KernelRfl
import Derived.WideShapes
namespace Go.Ev
open Go.RowKit
set_option linter.unusedSimpArgs false
set_option linter.unnecessarySimpa false
set_option linter.unusedVariables false

def orA : List Rc → Nat
  | [] => 0
  | r :: rs => r.a ||| orA rs
def orW : List Rc → Nat
  | [] => 0
  | r :: rs => r.w ||| orW rs
theorem orA_bit {i : Nat} : ∀ {L : List Rc}, (orA L).testBit i = true ↔ ∃ r ∈ L, r.a.testBit i = true
  | [] => by simp [orA]
  | r :: rs => by simp [orA, Nat.testBit_or, orA_bit (L := rs)]
theorem orW_bit {i : Nat} : ∀ {L : List Rc}, (orW L).testBit i = true ↔ ∃ r ∈ L, r.w.testBit i = true
  | [] => by simp [orW]
  | r :: rs => by simp [orW, Nat.testBit_or, orW_bit (L := rs)]
def evD (P : Program) (call : Callee) (ops : Array Oper) (fr : Fr) (s : St) : Option (Fr × St) :=
  if okOps ops.toList then match pms ops with
    | some pm => if okT ops pm then match runD P call ops ops.toList fr s with
        | some (L, fr', s') => if okH L pm then some (fr', { hp := s'.hp, nx := s'.nx, ac := s.ac ||| orA L, wr := s.wr ||| orW L }) else none
        | none => none
      else none
    | none => none
  else none
theorem put_slot {fr fr' : Fr} {d : Option Tmp} {v : Value} (h : fr.put d v = some fr') : fr'.n = fr.n ∧ (∀ t, d = some t → t < fr.n) ∧ ∀ t, fr'.slot t = if d = some t then v else fr.slot t := by
  unfold Fr.put at h
  cases d with
  | none => cases h; exact ⟨rfl, (fun t h => by cases h), fun t => by simp⟩
  | some t =>
    simp only at h
    split at h
    · rename_i hlt
      simp only [Bool.and_eq_true, blt_iff] at hlt
      cases h
      have hid : @LT.lt Nat _ (@HAdd.hAdd Nat Nat Nat _ t 1) ((2 : Nat) ^ 40) := by
        have h1 := hlt.2
        have h2 : top = 1000000 := rfl
        omega
      refine ⟨rfl, (fun u hu => by cases hu; exact hlt.1), fun u => ?_⟩
      unfold Fr.slot
      rw [Tr.get_set _ _ _ _ _ hid]
      by_cases hu : u = t
      · subst hu; simp
      · have hne : ¬ t = u := fun e => hu e.symm
        simp [hu, hne]
    · cases h
theorem yield_slot {m : Mu} {fr : Fr} {a : Act} (ops : Array Oper) (j : Nat) (h : ∀ d, (ops.toList[j]?).bind (·.dst) = some d → dn m (fr.slot d) = some (a.tmps.getD d undef)) : yielded ops a.tmps j = evYield ops fr j := by
  unfold yielded evYield
  rw [Array.getElem?_toList] at *
  cases hd : (ops[j]?).bind (·.dst) with
  | none => rfl
  | some d =>
    simp only [Option.bind_some]
    have hs := h d hd
    rw [Array.getD_eq_getD_getElem?] at hs
    cases ht : a.tmps[d]? with
    | none =>
      rw [ht] at hs
      simp only [Option.getD_none] at hs
      cases hx : fr.slot d with
      | bool b => rw [hx] at hs; cases hs
      | _ => rfl
    | some v' =>
      rw [ht] at hs
      simp only [Option.getD_some] at hs
      cases v' with
      | bool b => rw [dn_bool hs]
      | _ =>
        cases hx : fr.slot d with
        | bool b => rw [hx] at hs; cases hs
        | _ => rfl
theorem beq_or {a b l : Nat} (h : (a ||| b).testBit l = true) : Nat.beq (a ||| b) 0 = false := by
  apply beq_f
  intro e
  rw [e] at h
  simp at h
theorem conf {wi ai wj aj l : Nat} (h : wi.testBit l = true ∧ (aj.testBit l = true ∨ wj.testBit l = true) ∨ wj.testBit l = true ∧ (ai.testBit l = true ∨ wi.testBit l = true)) :
    Nat.beq ((wi &&& (aj ||| wj)) ||| (wj &&& ai)) 0 = false := by
  apply beq_or (l := l)
  simp only [Nat.testBit_or, Nat.testBit_and, Bool.or_eq_true, Bool.and_eq_true]
  rcases h with ⟨h1, h2⟩ | ⟨h1, h2 | h2⟩
  · exact .inl ⟨h1, h2⟩
  · exact .inr ⟨h1, h2⟩
  · exact .inl ⟨h2, .inr h1⟩
/-- how many are still to come -/
def left (l : List Bool) : Nat := (l.filter (!·)).length
theorem left_set : ∀ {l : List Bool} {i : Nat}, l[i]? = some false → left (l.set i true) + 1 = left l
  | x :: xs, 0, h => by simp at h; subst h; simp [left]
  | x :: xs, i + 1, h => by
    have := left_set (l := xs) (i := i) (by simpa using h)
    cases x <;> simp [left] at this ⊢ <;> omega
  | [], i, h => by simp at h
theorem left_zero : ∀ {l : List Bool}, left l = 0 → ∀ (i : Nat) (b : Bool), l[i]? = some b → b = true
  | x :: xs, h, 0, b, hb => by simp at hb; subst hb; cases x <;> simp [left] at h ⊢
  | x :: xs, h, i + 1, b, hb => by
    refine left_zero (l := xs) ?_ i b (by simpa using hb)
    cases x <;> simp [left] at h ⊢ <;> exact h
  | [], _, i, b, hb => by simp at hb
theorem left_all (n : Nat) : left (List.replicate n false) = n := by simp [left]
end Go.Ev
namespace Go.Ev
open Go.RowKit
set_option linter.unusedSimpArgs false
set_option linter.unnecessarySimpa false
set_option linter.unusedVariables false

open Classical in
/-- memory, where it is coupled, as the operations of S have left it -/
noncomputable def VH (FP : Nat → Prop) (n0 hi : Nat) (X : Nat → Option RO) (H : Nat → Option RO) : Nat → Option RO :=
  fun id => if id < hi ∧ (FP id ∨ n0 ≤ id) then X id else H id
theorem VH_in {FP : Nat → Prop} {n0 hi : Nat} {X H : Nat → Option RO} {id : Nat} (h : id < hi) (k : FP id ∨ n0 ≤ id) : VH FP n0 hi X H id = X id := by
  unfold VH
  rw [if_pos ⟨h, k⟩]
theorem VH_out {FP : Nat → Prop} {n0 hi : Nat} {X H : Nat → Option RO} {id : Nat} (h : ¬ (id < hi ∧ (FP id ∨ n0 ≤ id))) : VH FP n0 hi X H id = H id := by
  unfold VH
  rw [if_neg h]
set_option maxHeartbeats 1000000 in
theorem evD_wp {FP : Nat → Prop} {n0 hi B : Nat} {m : Mu} {s s' : St} {H : Nat → Option RO} {w : World} {P : Program} {call : Callee} {ops : Array Oper} {id0 : Nat} {fr fr' : Fr} {a : Act} {Q : Exit → Act → World → Prop}
    (hm : P.follows .mixedOrders = true) (hc : CallOK P call) (h : evD P call ops fr s = some (fr', s')) (hf : Fits FP n0 hi s') (hv : Inv FP n0 hi B m s H w) (ht : TR m fr a)
    (hQ : ∀ a' w' m' H', TR m' fr' a' → Inv FP n0 hi B m' s' H' w' → Ste B m s H w m' s' H' w' → Q .normal a' w') : (Code.region id0 ops true).wp P Q a w := by
  unfold evD at h
  split at h
  case isFalse => cases h
  rename_i hok
  split at h
  case h_2 => cases h
  rename_i pml hpm
  split at h
  case isFalse => cases h
  rename_i hokT
  split at h
  case h_2 => cases h
  rename_i L fr1 s1 hrun
  split at h
  case isFalse => cases h
  rename_i hokH
  cases h
  obtain ⟨hL, F, T, f0, t0, fn, tn, hall⟩ := runD_spec _ _ _ _ _ _ hrun
  obtain ⟨hpl, _, hpms⟩ := pmsGo_spec _ _ _ hpm
  simp only [List.length_nil, Nat.zero_add] at hpl hpms
  generalize hn : ops.toList.length = n at *
  have hnsz : ops.size = n := by simpa using hn
  -- what each operation did
  have hz : ∀ i, i ≤ n → (T i).ac = 0 ∧ (T i).wr = 0 := by
    intro i hi'
    cases i with
    | zero => rw [t0]; exact ⟨rfl, rfl⟩
    | succ i =>
      obtain ⟨r, _, v, si, _, e, _⟩ := hall i ops.toList[i] (by simp [show i < ops.size by omega])
      rw [e]; exact ⟨rfl, rfl⟩
  have hD : ∀ i, i < n → ∃ o r v si, ops.toList[i]? = some o ∧ L[i]? = some r ∧ r = ⟨(T i).nx, si.nx, si.wr, si.ac⟩ ∧ T (i + 1) = si.zero ∧ (F i).put o.dst v = some (F (i + 1)) ∧ Mo (T i) si ∧
      ((evWanted ops (F i) o = true ∧ evStep P call o (F i) (T i) = some (v, si)) ∨ (evWanted ops (F i) o = false ∧ v = undef ∧ si = T i)) := by
    intro i hi'
    have ho : ops.toList[i]? = some ops.toList[i] := by simp [show i < ops.size by omega]
    obtain ⟨r, hr, v, si, e1, e2, e3, e4⟩ := hall i _ ho
    refine ⟨_, r, v, si, ho, hr, e1, e2, e3, ?_, e4⟩
    rcases e4 with ⟨_, h2⟩ | ⟨_, _, h2⟩
    · exact evStep_mo hc h2
    · subst h2; exact Mo.refl _
  have hnx1 : ∀ i, i < n → (T i).nx ≤ (T (i + 1)).nx := by
    intro i hi'
    obtain ⟨o, r, v, si, _, _, _, e2, _, mo, _⟩ := hD i hi'
    rw [e2]; exact mo.nx
  have hnx : ∀ d i, i + d ≤ n → (T i).nx ≤ (T (i + d)).nx := by
    intro d
    induction d with
    | zero => intro i _; exact Nat.le_refl _
    | succ d ih =>
      intro i hi'
      exact Nat.le_trans (ih i (by omega)) (hnx1 (i + d) (by omega))
  have hnx' : ∀ i j, i ≤ j → j ≤ n → (T i).nx ≤ (T j).nx := by
    intro i j hij hj
    have := hnx (j - i) i (by omega)
    rwa [show i + (j - i) = j by omega] at this
  have hT0 : (T 0).nx = s.nx := by rw [t0]; rfl
  have hTn : (T n).nx = s1.nx := by rw [tn]
  let σt : Nat → Nat → Value := fun i t => (F i).slot t
  let Wt : Nat → Nat → Bool := fun i t => match ops.toList[i]? with | some o => (tw o).testBit t | none => false
  let At : Nat → Nat → Bool := fun i t => match ops.toList[i]? with | some o => (tr ops o).testBit t || (tw o).testBit t | none => false
  let σh : Nat → Nat → Option RO := fun i id => (T i).hp.get id
  let Wh : Nat → Nat → Bool := fun i id => match L[i]? with | some r => (wOf r).testBit id | none => false
  let Ah : Nat → Nat → Bool := fun i id => match L[i]? with | some r => (aOf r).testBit id | none => false
  let pmf : Nat → Nat → Bool := fun i j => match pml[i]? with | some k => k.testBit j | none => false
  have hWt : ∀ {i o} (t : Nat), ops.toList[i]? = some o → (Wt i t = true ↔ o.dst = some t) := by
    intro i o t ho
    show (match ops.toList[i]? with | some o => (tw o).testBit t | none => false) = true ↔ _
    rw [ho]; exact tw_bit
  have hAt : ∀ {i o} (t : Nat), ops.toList[i]? = some o → At i t = ((tr ops o).testBit t || (tw o).testBit t) := by
    intro i o t ho
    show (match ops.toList[i]? with | some o => (tr ops o).testBit t || (tw o).testBit t | none => false) = _
    rw [ho]
  have hWh : ∀ {i r} (id : Nat), L[i]? = some r → Wh i id = (wOf r).testBit id := by
    intro i r id hr
    show (match L[i]? with | some r => (wOf r).testBit id | none => false) = _
    rw [hr]
  have hAh : ∀ {i r} (id : Nat), L[i]? = some r → Ah i id = (aOf r).testBit id := by
    intro i r id hr
    show (match L[i]? with | some r => (aOf r).testBit id | none => false) = _
    rw [hr]
  have hpmf : ∀ {i k} (j : Nat), pml[i]? = some k → pmf i j = k.testBit j := by
    intro i k j hk
    show (match pml[i]? with | some k => k.testBit j | none => false) = _
    rw [hk]
  have hpk : ∀ i, i < n → ∃ k, pml[i]? = some k := fun i hi' => ⟨pml[i], by simp [hpl, hi']⟩
  -- of memory: an operation writes what is its own, or what it looks at
  have hW1 : ∀ {i r} (id : Nat), i < n → L[i]? = some r → (wOf r).testBit id = true → ((r.w.testBit id = true ∧ r.a.testBit id = true) ∨ r.lo ≤ id) ∧ id < r.hi := by
    intro i r id hi' hr hb
    obtain ⟨o, r', v, si, _, hr', e1, e2, _, mo, _⟩ := hD i hi'
    rw [hr] at hr'; cases hr'
    subst e1
    have z := hz i (by omega)
    have nobit : ∀ j, (T i).wr.testBit j = true → False := fun j hj => by rw [z.2] at hj; simp at hj
    unfold wOf at hb
    rw [Nat.testBit_or, Bool.or_eq_true] at hb
    rcases hb with hb | hb
    · exact ⟨.inl ⟨hb, mo.wa (fun j hj => (nobit j hj).elim) _ hb⟩, mo.wl (fun j hj => (nobit j hj).elim) _ hb⟩
    · have := rng_bit.1 hb
      exact ⟨.inr this.1, this.2⟩
  have tidyT : Tidy n σt Wt At pmf := by
    refine ⟨fun i l hi' hW => ?_, fun i l hi' hW => ?_, fun i j l hij hj hcf => ?_⟩
    · obtain ⟨o, r, v, si, ho, _, _, _, hp, _⟩ := hD i hi'
      show (F (i + 1)).slot l = (F i).slot l
      rw [(put_slot hp).2.2 l, if_neg]
      intro hd
      rw [(hWt l ho).2 hd] at hW; cases hW
    · obtain ⟨o, r, v, si, ho, _⟩ := hD i hi'
      rw [hAt l ho, tw_bit.2 ((hWt l ho).1 hW), Bool.or_true]
    · obtain ⟨oi, _, _, _, hoi, _⟩ := hD i (by omega)
      obtain ⟨oj, _, _, _, hoj, _⟩ := hD j hj
      obtain ⟨ki, hki⟩ := hpk i (by omega)
      obtain ⟨kj, hkj⟩ := hpk j hj
      have hx := allT_spec hokT i j _ _ hij (zip3_at (by rw [List.getElem?_map, hoi]; rfl) (by rw [List.getElem?_map, hoi]; rfl) hki) (zip3_at (by rw [List.getElem?_map, hoj]; rfl) (by rw [List.getElem?_map, hoj]; rfl) hkj)
      simp only [Nat.zero_add] at hx
      rw [hpmf i hkj]
      have hb := conf (wi := tw oi) (ai := tr ops oi) (wj := tw oj) (aj := tr ops oj) (l := l) (by
        rw [hAt l hoj, hAt l hoi, Bool.or_eq_true, Bool.or_eq_true] at hcf
        rcases hcf with ⟨h1, h2⟩ | ⟨h1, h2⟩
        · exact .inl ⟨tw_bit.2 ((hWt l hoi).1 h1), h2⟩
        · exact .inr ⟨tw_bit.2 ((hWt l hoj).1 h1), h2⟩)
      rw [hb, Bool.false_or] at hx
      exact hx
  have tidyH : Tidy n σh Wh Ah pmf := by
    refine ⟨fun i l hi' hW => ?_, fun i l hi' hW => ?_, fun i j l hij hj hcf => ?_⟩
    · obtain ⟨o, r, v, si, _, hr, e1, e2, _, mo, _⟩ := hD i hi'
      rw [hWh l hr] at hW
      subst e1
      unfold wOf at hW
      rw [Nat.testBit_or, Bool.or_eq_false_iff] at hW
      show (T (i + 1)).hp.get l = (T i).hp.get l
      rw [e2]
      refine mo.kp l hW.1 ?_
      have : ¬ ((T i).nx ≤ l ∧ l < si.nx) := fun e => by
        have := rng_bit.2 e
        rw [this] at hW; cases hW.2
      omega
    · obtain ⟨o, r, v, si, _, hr, e1, e2, _, mo, _⟩ := hD i hi'
      rw [hWh l hr] at hW
      rw [hAh l hr]
      have := hW1 l hi' hr hW
      unfold aOf
      rw [Nat.testBit_or, Bool.or_eq_true]
      rcases this.1 with h1 | h1
      · exact .inl h1.2
      · exact .inr (rng_bit.2 ⟨h1, this.2⟩)
    · obtain ⟨_, ri, _, _, _, hri, _⟩ := hD i (by omega)
      obtain ⟨_, rj, _, _, _, hrj, _⟩ := hD j hj
      obtain ⟨ki, hki⟩ := hpk i (by omega)
      obtain ⟨kj, hkj⟩ := hpk j hj
      rw [hpmf i hkj]
      rw [hWh l hri, hAh l hrj, hWh l hrj, hAh l hri] at hcf
      unfold okH at hokH
      rw [Bool.or_eq_true] at hokH
      rcases hokH with h0 | h0
      · simp only [List.all_eq_true] at h0
        have z1 := Nat.eq_of_beq_eq_true (h0 ri (List.mem_of_getElem? hri))
        have z2 := Nat.eq_of_beq_eq_true (h0 rj (List.mem_of_getElem? hrj))
        rw [z1, z2] at hcf
        simp at hcf
      · have hx := allT_spec h0 i j _ _ hij (zip3_at (by rw [List.getElem?_map, hri]; rfl) (by rw [List.getElem?_map, hri]; rfl) hki) (zip3_at (by rw [List.getElem?_map, hrj]; rfl) (by rw [List.getElem?_map, hrj]; rfl) hkj)
        simp only [Nat.zero_add] at hx
        have hb := conf (wi := wOf ri) (ai := aOf ri) (wj := wOf rj) (aj := aOf rj) (l := l) (hcf.imp (fun e => ⟨e.1, .inl e.2⟩) (fun e => ⟨e.1, .inl e.2⟩))
        rw [hb, Bool.false_or] at hx
        exact hx
  have hfn : ∀ i, i ≤ n → (F i).n = fr.n := by
    intro i
    induction i with
    | zero => intro _; rw [f0]
    | succ i ih =>
      intro hi'
      obtain ⟨o, r, v, si, _, _, _, _, hp, _⟩ := hD i (by omega)
      rw [(put_slot hp).1, ih (by omega)]
  have hhi : s1.nx ≤ hi := hf.1
  have hlo : n0 ≤ s.nx := hv.lo
  have hs1 : s.nx ≤ s1.nx := by rw [← hT0, ← hTn]; exact hnx' 0 n (by omega) (Nat.le_refl _)
  have hfa : ∀ {i : Nat} {r : Rc} (id : Nat), L[i]? = some r → r.a.testBit id = true → id < n0 → FP id := by
    intro i r id hr hb hlt
    refine hf.2 id ?_ hlt
    show (s.ac ||| orA L).testBit id = true
    rw [Nat.testBit_or, orA_bit.2 ⟨r, List.mem_of_getElem? hr, hb⟩, Bool.or_true]
  have hσ0 : ∀ id, σh 0 id = s.hp.get id := fun id => by show (T 0).hp.get id = _; rw [t0]; rfl
  -- no operation before i writes behind where i begins
  have hnoW : ∀ {k} (id : Nat), k < n → Wh k id = true → id < (T (k + 1)).nx := by
    intro k id hk hW
    obtain ⟨o, r, v, si, _, hr, e1, e2, _⟩ := hD k hk
    rw [hWh id hr] at hW
    have := (hW1 id hk hr hW).2
    subst e1
    rw [e2]; exact this
  have hcoup : ∀ {k} (id : Nat), k < n → Wh k id = true → id < hi ∧ (FP id ∨ n0 ≤ id) := by
    intro k id hk hW
    have h1 := hnoW id hk hW
    have h2 := hnx' (k + 1) n (by omega) (Nat.le_refl _)
    refine ⟨by omega, ?_⟩
    obtain ⟨o, r, v, si, _, hr, e1, e2, _⟩ := hD k hk
    rw [hWh id hr] at hW
    by_cases h0 : n0 ≤ id
    · exact .inr h0
    · rcases (hW1 id hk hr hW).1 with h3 | h3
      · exact .inl (hfa id hr h3.2 (by omega))
      · subst e1
        have := hnx' 0 k (by omega) (by omega)
        exact .inr (by simp only at h3; omega)
  have hready_mem : ∀ (listed : Array Bool) (i : Nat), listed.size = n → i ∈ Region.ready .any ops listed → i < n ∧ listed.getD i true = false ∧ ∀ o, ops.toList[i]? = some o → ∀ e ∈ o.after.toList, Region.binds .any e = true → listed.getD e.on true = true := by
    intro listed i hsz hi'
    unfold Region.ready at hi'
    rw [List.mem_filter] at hi'
    obtain ⟨h1, h2⟩ := hi'
    have h1 : i < n := by rw [← hnsz]; exact List.mem_range.1 h1
    rw [Bool.and_eq_true] at h2
    refine ⟨h1, by simpa using h2.1, fun o ho e he hb => ?_⟩
    have ho' : ops[i]? = some o := by simpa using ho
    rw [ho'] at h2
    simp only [Option.map_some, Option.getD_some, Array.all_eq_true_iff_forall_mem] at h2
    have := h2.2 e (by simpa using he)
    rw [hb] at this
    simp only [Bool.not_true, Bool.false_or] at this
    have hon := (hpms i o ho).1 e he hb
    have hlt : e.on < listed.size := by omega
    rw [Array.getD_eq_getD_getElem?] at this ⊢
    rw [Array.getElem?_eq_getElem hlt] at this ⊢
    exact this
  have hready_nil : ∀ (listed : Array Bool), listed.size = n → Region.ready .any ops listed = [] → ∀ k, k < n → listed.getD k true = true := by
    intro listed hsz hnil k
    induction k using Nat.strongRecOn with
    | _ k ihk =>
      intro hk
      cases hk0 : listed.getD k true with
      | true => rfl
      | false =>
        exfalso
        have : k ∈ Region.ready .any ops listed := by
          unfold Region.ready
          rw [List.mem_filter]
          refine ⟨List.mem_range.2 (by omega), ?_⟩
          obtain ⟨o, _, _, _, ho, _⟩ := hD k hk
          have ho' : ops[k]? = some o := by simpa using ho
          rw [hk0, ho']
          simp only [Bool.not_false, Bool.true_and, Option.map_some, Option.getD_some, Array.all_eq_true_iff_forall_mem]
          intro e he
          cases hb : Region.binds .any e with
          | false => rfl
          | true =>
            have hon := (hpms k o ho).1 e (by simpa using he) hb
            have := ihk e.on hon (by omega)
            have hlt : e.on < listed.size := by omega
            rw [Array.getD_eq_getD_getElem?] at this ⊢
            rw [Array.getElem?_eq_getElem hlt] at this ⊢
            simpa using this
        rw [hnil] at this
        cases this
  have hfinal : ∀ (S : Nat → Bool) (a1 : Act) (m1 : Mu) (w1 : World), (∀ k, k < n → S k = true) → a1.tmps.size = fr.n → a1.defers = [] → (∀ t, dn m1 (seen σt Wt S n t) = some (a1.tmps.getD t undef)) →
      Vw m1 B (VH FP n0 hi (seen σh Wh S n) H) w1 → Le m m1 → (∀ id, (id < s.nx ∨ s1.nx ≤ id) → m1 id = m id) → Below B w w1 → Q .normal a1 w1 := by
    intro S a1 m1 w1 hS hsa hda htm hvw hle honly hbel
    have hout : ∀ id, (id < s.nx ∨ s1.nx ≤ id) → (∀ (k : Nat) (r : Rc), L[k]? = some r → r.w.testBit id = false) → ∀ k, k < n → Wh k id = false := by
      intro id hid hw k hk
      obtain ⟨o, r, v, si, _, hr, e1, e2, _⟩ := hD k hk
      rw [hWh id hr]
      unfold wOf
      rw [Nat.testBit_or, hw k r hr, Bool.false_or]
      cases hb : (rng r.lo r.hi).testBit id with
      | false => rfl
      | true =>
        have := rng_bit.1 hb
        subst e1
        have g1 := hnx' 0 k (by omega) (by omega)
        have g2 := hnx' (k + 1) n (by omega) (Nat.le_refl _)
        rw [e2] at g2
        simp only [St.zero] at g2 this
        omega
    refine hQ a1 w1 m1 _ ⟨?_, hda, fun t => ?_⟩ ⟨hvw, fun id hid hid' => ?_, fun id hid hid' => ?_, Nat.le_trans hlo hs1, ?_⟩ ⟨hle, fun id hid => honly id hid, fun id hid hwr => ?_, hbel, hs1, fun id e => ?_, fun id e => ?_, fun e id k => ?_⟩
    · rw [hsa, ← fn]; exact (hfn n (Nat.le_refl _)).symm
    · rw [← htm t, seen_all tidyT hS t]
      show _ = dn m1 ((F n).slot t)
      rw [fn]
    · rw [VH_in hid hid', seen_all tidyH hS id]
      show s1.hp.get id = (T n).hp.get id
      rw [tn]
    · have hid : s1.nx ≤ id := hid
      refine ⟨by rw [honly id (.inr hid)]; exact (hv.fr id (by omega) hid').1, ?_⟩
      rw [VH_in hid' (.inr (by omega)), seen_not (fun k hk => ?_)]
      · rw [hσ0, hv.cp id hid' (.inr (by omega))]
        exact (hv.fr id (by omega) hid').2
      · cases hW : Wh k id with
        | false => rfl
        | true =>
          have g1 := hnoW id hk hW
          have g2 := hnx' (k + 1) n (by omega) (Nat.le_refl _)
          omega
    · exact Nat.le_trans hv.base hbel.size
    · have hwr : (s.wr ||| orW L).testBit id = false := hwr
      rw [Nat.testBit_or, Bool.or_eq_false_iff] at hwr
      have hw : ∀ (k : Nat) (r : Rc), L[k]? = some r → r.w.testBit id = false := by
        intro k r hr
        cases hb : r.w.testBit id with
        | false => rfl
        | true => rw [orW_bit.2 ⟨r, List.mem_of_getElem? hr, hb⟩] at hwr; cases hwr.2
      by_cases hcp : id < hi ∧ (FP id ∨ n0 ≤ id)
      · rw [VH_in hcp.1 hcp.2, seen_not (hout id hid hw), hσ0]
        exact hv.cp id hcp.1 hcp.2
      · rw [VH_out hcp]
    · show (s.ac ||| orA L).testBit id = true
      rw [Nat.testBit_or, e]; rfl
    · show (s.wr ||| orW L).testBit id = true
      rw [Nat.testBit_or, e]; rfl
    · have k : (s.wr ||| orW L).testBit id = true := k
      show (s.ac ||| orA L).testBit id = true
      rw [Nat.testBit_or, Bool.or_eq_true] at k ⊢
      rcases k with k | k
      · exact .inl (e id k)
      · right
        obtain ⟨r, hr, hb⟩ := orW_bit.1 k
        obtain ⟨j, hj⟩ := List.getElem?_of_mem hr
        have hjn : j < n := by
          have := (List.getElem?_eq_some_iff.1 hj).1
          omega
        obtain ⟨o, r', v, si, _, hr', e1, e2, _, mo, _⟩ := hD j hjn
        rw [hj] at hr'; cases hr'
        have z := hz j (by omega)
        refine orA_bit.2 ⟨r, hr, ?_⟩
        subst e1
        exact mo.wa (fun q hq => by rw [z.2] at hq; simp at hq) _ hb
  refine wp_region_any hm ?_
  have key : ∀ (fuel : Nat) (listed : Array Bool) (a1 : Act) (m1 : Mu) (w1 : World), listed.size = n → left listed.toList = fuel →
      (∀ k i, k < n → listed.getD k true = true → pmf k i = true → listed.getD i true = true) → a1.tmps.size = fr.n → a1.defers = [] →
      (∀ t, dn m1 (seen σt Wt (fun k => listed.getD k true) n t) = some (a1.tmps.getD t undef)) →
      Vw m1 B (VH FP n0 hi (seen σh Wh (fun k => listed.getD k true) n) H) w1 →
      (∀ i, i < n → listed.getD i true = false → ∀ id, (T i).nx ≤ id → id < (T (i + 1)).nx → m1 id = none) →
      Le m m1 → (∀ id, (id < s.nx ∨ s1.nx ≤ id) → m1 id = m id) → Below B w w1 → wpAny P .any ops Q fuel listed a1 w1 := by
    intro fuel
    induction fuel with
    | zero =>
      intro listed a1 m1 w1 hsz hleft hcl hsa hda htm hvw hfr hle honly hbel
      have hall' : ∀ k, k < n → listed.getD k true = true := by
        intro k hk
        have hlt : k < listed.size := by omega
        rw [Array.getD_eq_getD_getElem?, Array.getElem?_eq_getElem hlt]
        exact left_zero hleft k _ (by simp [hlt])
      refine ⟨?_, hfinal _ a1 m1 w1 hall' hsa hda htm hvw hle honly hbel⟩
      cases hr : Region.ready .any ops listed with
      | nil => rfl
      | cons i is =>
        have := hready_mem listed i hsz (by rw [hr]; simp)
        rw [hall' i this.1] at this
        cases this.2.1
    | succ fuel ih =>
      intro listed a1 m1 w1 hsz hleft hcl hsa hda htm hvw hfr hle honly hbel
      refine ⟨fun hnil => hfinal _ a1 m1 w1 (hready_nil listed hsz hnil) hsa hda htm hvw hle honly hbel, fun i hir => ?_⟩
      obtain ⟨hi', hsi, hedges⟩ := hready_mem listed i hsz hir
      obtain ⟨o, r, v, si, ho, hr, e1, e2, hp, mo, hdid⟩ := hD i hi'
      have hedges := hedges o ho
      obtain ⟨k0, hk0, hk0'⟩ := (hpms i o ho).2
      have hprev : ∀ j, pmf i j = true → listed.getD j true = true := by
        intro j hj
        rw [hpmf j hk0] at hj
        obtain ⟨e, he, hb, hj'⟩ := hk0' j hj
        have hon := (hpms i o ho).1 e he hb
        rcases hj' with rfl | ⟨p, hpp, hpj⟩
        · exact hedges e he hb
        · exact hcl e.on j (by omega) (hedges e he hb) (by rw [hpmf j hpp]; exact hpj)
      generalize hS : (fun k => listed.getD k true) = S at *
      have hSi : S i = false := by rw [← hS]; exact hsi
      have hcl : ∀ k i, k < n → S k = true → pmf k i = true → S i = true := by rw [← hS]; exact hcl
      have hprev : ∀ j, pmf i j = true → S j = true := by rw [← hS]; exact hprev
      have hfr : ∀ i, i < n → S i = false → ∀ id, (T i).nx ≤ id → id < (T (i + 1)).nx → m1 id = none := by rw [← hS]; exact hfr
      have hsinx : (T (i + 1)).nx = si.nx := by rw [e2]; rfl
      have hslot : ∀ t, At i t = true → dn m1 ((F i).slot t) = some (a1.tmps.getD t undef) := by
        intro t hA
        rw [← htm t, seen_at tidyT hcl hi' hSi hprev hA]
      have hwant : Region.wanted o (yielded ops a1.tmps) = evWanted ops (F i) o := by
        unfold Region.wanted evWanted
        cases hg : o.guard with
        | none => rfl
        | some g =>
          obtain ⟨j, b⟩ := g
          simp only
          rw [yield_slot ops j (fun d hd => hslot d (by rw [hAt d ho, tr_guard hg hd, Bool.true_or]))]
      have hx : ∀ x ∈ o.op.operands, dn m1 (evalO (F i) x) = some (a1.eval x) := by
        intro x hxm
        have hok' : okX x = true := by
          simp only [okOps, List.all_eq_true] at hok
          exact hok o (List.mem_of_getElem? ho) x (by simpa using hxm)
        cases x with
        | tmp t => exact hslot t (by rw [hAt t ho, tr_operand hxm, Bool.true_or])
        | const v => exact cl_dn hok' m1
        | global g => cases hok'
        | func f => rfl
      have hX : ∀ id, Ah i id = true → seen σh Wh S n id = (T i).hp.get id := fun id hA => seen_at tidyH hcl hi' hSi hprev hA
      have hAr : ∀ id, Ah i id = true ↔ (si.ac.testBit id = true ∨ ((T i).nx ≤ id ∧ id < si.nx)) := by
        intro id
        rw [hAh id hr]
        subst e1
        unfold aOf
        rw [Nat.testBit_or, Bool.or_eq_true, rng_bit]
      have hWr : ∀ id, Wh i id = true ↔ (si.wr.testBit id = true ∨ ((T i).nx ≤ id ∧ id < si.nx)) := by
        intro id
        rw [hWh id hr]
        subst e1
        unfold wOf
        rw [Nat.testBit_or, Bool.or_eq_true, rng_bit]
      have hsle : si.nx ≤ s1.nx := by rw [← hsinx, ← hTn]; exact hnx' (i + 1) n (by omega) (Nat.le_refl _)
      have hsge : s.nx ≤ (T i).nx := by rw [← hT0]; exact hnx' 0 i (by omega) (by omega)
      have hcoupA : ∀ id, id < si.nx → Ah i id = true → id < hi ∧ (FP id ∨ n0 ≤ id) := by
        intro id hid hA
        refine ⟨by omega, ?_⟩
        by_cases h0 : n0 ≤ id
        · exact .inr h0
        · rcases (hAr id).1 hA with h1 | h1
          · exact .inl (hfa id hr (by subst e1; exact h1) (by omega))
          · exact .inr (by omega)
      have hinv : Inv (fun id => si.ac.testBit id = true) (T i).nx si.nx B m1 (T i) (VH FP n0 hi (seen σh Wh S n) H) w1 := by
        refine ⟨hvw, fun id hid hA => ?_, fun id h1 h2 => ?_, Nat.le_refl _, Nat.le_trans hv.base hbel.size⟩
        · have hA' : Ah i id = true := (hAr id).2 (hA.imp (fun h => h) (fun h => ⟨h, hid⟩))
          obtain ⟨c1, c2⟩ := hcoupA id hid hA'
          rw [VH_in c1 c2, hX id hA']
        · have hA' : Ah i id = true := (hAr id).2 (.inr ⟨h1, h2⟩)
          obtain ⟨c1, c2⟩ := hcoupA id h2 hA'
          refine ⟨hfr i hi' hSi id h1 (by rw [hsinx]; exact h2), ?_⟩
          rw [VH_in c1 c2, seen_none (fun k hk hSk hW => ?_)]
          · rw [hσ0, hv.cp id c1 c2]
            exact (hv.fr id (by omega) c1).2
          · by_cases hki : k < i
            · have g1 := hnoW id hk hW
              have g2 := hnx' (k + 1) i (by omega) (by omega)
              omega
            · by_cases hki' : k = i
              · subst hki'; rw [hSi] at hSk; cases hSk
              · have := hcl k i hk hSk (tidyH.ord i k id (by omega) hk (.inr ⟨hW, hA'⟩))
                rw [hSi] at this; cases this
      have go : ∀ (v' : Value) (w2 : World) (m2 : Mu) (H2 : Nat → Option RO), dn m2 v = some v' → Inv (fun id => si.ac.testBit id = true) (T i).nx si.nx B m2 si H2 w2 → Ste B m1 (T i) (VH FP n0 hi (seen σh Wh S n) H) w1 m2 si H2 w2 → wpAny P .any ops Q fuel (listed.setIfInBounds i true) (a1.put o.dst v') w2 := by
        intro v' w2 m2 H2 hdv hinv2 hst
        have hS' : (fun k => (listed.setIfInBounds i true).getD k true) = with_ S i := by
          funext k
          have hSk : S k = listed.getD k true := by rw [← hS]
          unfold with_
          rw [hSk, Array.getD_eq_getD_getElem?, Array.getD_eq_getD_getElem?, Array.getElem?_setIfInBounds]
          by_cases hki : i = k
          · subst hki
            simp [show i < listed.size by omega]
          · rw [if_neg hki, beq_f (fun e => hki e.symm), Bool.or_false]
        have hS'' : ∀ k, (listed.setIfInBounds i true).getD k true = with_ S i k := fun k => congrFun hS' k
        have hlf : listed.toList[i]? = some false := by
          have hlt : i < listed.size := by omega
          have h1 := hsi
          rw [Array.getD_eq_getD_getElem?, Array.getElem?_eq_getElem hlt] at h1
          simp only [Option.getD_some] at h1
          simp [hlt, h1]
        have hsz2 : (a1.put o.dst v').tmps.size = fr.n := by
          unfold Act.put
          cases o.dst with
          | none => exact hsa
          | some d => simp [hsa]
        have hda2 : (a1.put o.dst v').defers = [] := by
          unfold Act.put
          cases o.dst with
          | none => exact hda
          | some d => exact hda
        refine ih (listed.setIfInBounds i true) (a1.put o.dst v') m2 w2 (by simp [hsz]) ?_ ?_ hsz2 hda2 ?_ ?_ ?_ (hle.trans hst.ext) ?_ (hbel.trans hst.bel)
        · rw [Array.toList_setIfInBounds]
          have := left_set hlf
          omega
        · intro k j hk hk1 hk2
          rw [hS''] at hk1 ⊢
          by_cases hki : k = i
          · subst hki
            have := hprev j hk2
            unfold with_
            rw [this]; rfl
          · rw [with_ne hki] at hk1
            have := hcl k j hk hk1 hk2
            unfold with_
            rw [this]; rfl
        · intro t
          rw [hS', seen_with tidyT hcl hi' hSi]
          obtain ⟨_, hlt, hps⟩ := put_slot hp
          by_cases hW : Wt i t = true
          · rw [if_pos hW]
            have hdst := (hWt t ho).1 hW
            show dn m2 ((F (i + 1)).slot t) = _
            rw [hps t, if_pos hdst, hdv]
            have hl := hlt t hdst
            rw [hfn i (by omega), ← hsa] at hl
            unfold Act.put
            rw [hdst]
            simp [hl]
          · rw [if_neg hW]
            have hdst : o.dst ≠ some t := fun e => hW ((hWt t ho).2 e)
            rw [dn_mono hst.ext (htm t)]
            unfold Act.put
            cases hd : o.dst with
            | none => rfl
            | some d =>
              have hne : d ≠ t := fun e => hdst (by rw [hd, e])
              simp [Array.getD_eq_getD_getElem?, Array.getElem?_setIfInBounds_ne hne]
        · have hH : VH FP n0 hi (seen σh Wh (with_ S i) n) H = H2 := by
            funext id
            by_cases hW : Wh i id = true
            · obtain ⟨c1, c2⟩ := hcoup id hi' hW
              rw [VH_in c1 c2, seen_with tidyH hcl hi' hSi, if_pos hW]
              show (T (i + 1)).hp.get id = _
              rw [e2]
              have hlt : id < si.nx := by rw [← hsinx]; exact hnoW id hi' hW
              refine hinv2.cp id hlt ?_
              have hA := tidyH.sub i id hi' hW
              exact ((hAr id).1 hA).imp (fun h => h) (fun h => h.1)
            · have hW' : ¬ (si.wr.testBit id = true ∨ ((T i).nx ≤ id ∧ id < si.nx)) := fun e => hW ((hWr id).2 e)
              have hwb : si.wr.testBit id = false := by
                cases hb : si.wr.testBit id with
                | false => rfl
                | true => exact absurd (.inl hb) hW'
              have hk := hst.keep id (by
                have : ¬ ((T i).nx ≤ id ∧ id < si.nx) := fun e => hW' (.inr e)
                omega) hwb
              rw [hk]
              by_cases hcp : id < hi ∧ (FP id ∨ n0 ≤ id)
              · rw [VH_in hcp.1 hcp.2, VH_in hcp.1 hcp.2, seen_with tidyH hcl hi' hSi, if_neg hW]
              · rw [VH_out hcp, VH_out hcp]
          rw [hS', hH]
          exact hinv2.vw
        · intro k hk hk1 id h1 h2
          rw [hS''] at hk1
          have hki : k ≠ i := fun e => by rw [e, with_eq] at hk1; cases hk1
          rw [with_ne hki] at hk1
          rw [hst.only id ?_]
          · exact hfr k hk hk1 id h1 h2
          · by_cases hlt : k < i
            · have := hnx' (k + 1) i (by omega) (by omega)
              left; omega
            · have := hnx' (i + 1) k (by omega) (by omega)
              rw [hsinx] at this
              right; omega
        · intro id hid
          rw [hst.only id (by omega), honly id hid]
      have ho' : ops[i]? = some o := by simpa using ho
      unfold wpOp
      rw [ho']
      simp only
      rw [hwant]
      rcases hdid with ⟨hw, hstep⟩ | ⟨hw, rfl, rfl⟩
      · rw [if_pos hw]
        left
        exact evStep_wp hc hstep (FP := fun id => si.ac.testBit id = true) (n0 := (T i).nx) (hi := si.nx) ⟨Nat.le_refl _, fun id e _ => e⟩ hinv hx go
      · rw [hw]
        exact go undef w1 m1 _ rfl hinv (Ste.refl _ _ _ _ _)
  have hrep : ∀ k : Nat, (Array.replicate ops.size false).getD k true = true → n ≤ k := by
    intro k hk
    by_cases hlt : k < n
    · rw [Array.getD_eq_getD_getElem?] at hk
      simp [hnsz, hlt] at hk
    · omega
  have hnone : ∀ k, k < n → (fun k => (Array.replicate ops.size false).getD k true) k = true → False := fun k hk h => by
    have := hrep k h
    omega
  have hdr : Inv FP n0 hi B m s H w.drew := hv.heap rfl
  rw [show ({ w with drawn := w.drawn + 1 } : World) = w.drew from rfl]
  refine key ops.size (Array.replicate ops.size false) a m w.drew (by simp [hnsz]) (by rw [Array.toList_replicate, left_all]) (fun k j hk hk1 _ => (hnone k hk hk1).elim) ht.size ht.defers (fun t => ?_) ?_ (fun i hi' _ id h1 h2 => ?_) (Le.refl m) (fun _ _ => rfl) ((Below.refl B w).drew)
  · rw [seen_none (fun k hk h _ => hnone k hk h)]
    show dn m ((F 0).slot t) = _
    rw [f0]
    exact ht.at_ t
  · have hH : VH FP n0 hi (seen σh Wh (fun k => (Array.replicate ops.size false).getD k true) n) H = H := by
      funext id
      by_cases hcp : id < hi ∧ (FP id ∨ n0 ≤ id)
      · rw [VH_in hcp.1 hcp.2, seen_none (fun k hk h _ => hnone k hk h), hσ0]
        exact hv.cp id hcp.1 hcp.2
      · rw [VH_out hcp]
    rw [hH]
    exact hdr.vw
  · have g1 := hnx' 0 i (by omega) (by omega)
    have g2 := hnx' (i + 1) n (by omega) (Nat.le_refl _)
    exact (hv.fr id (by omega) (by omega)).1
end Go.Ev
namespace Go.Ev
open Go.RowKit
set_option linter.unusedSimpArgs false
set_option linter.unnecessarySimpa false
set_option linter.unusedVariables false

theorem runD_mo {P : Program} {call : Callee} {ops : Array Oper} (hc : CallOK P call) : ∀ (l : List Oper) (fr : Fr) (s : St) (L : List Rc) (fr' : Fr) (s' : St), runD P call ops l fr s = some (L, fr', s') →
    s.nx ≤ s'.nx ∧ (∀ id, (orW L).testBit id = false → (id < s.nx ∨ s'.nx ≤ id) → s'.hp.get id = s.hp.get id) ∧ (∀ id, (orW L).testBit id = true → (orA L).testBit id = true ∧ id < s'.nx)
  | [], fr, s, L, fr', s', h => by
    simp only [runD] at h
    cases h
    exact ⟨Nat.le_refl _, fun _ _ _ => rfl, fun id h => by simp [orW] at h⟩
  | o :: rest, fr, s, L, fr', s', h => by
    simp only [runD] at h
    split at h
    · split at h
      · rename_i v s1 hs
        split at h
        · split at h
          · rename_i L1 y hr
            cases h
            have mo := evStep_mo hc hs
            have mo1 : s.nx ≤ s1.nx := mo.nx
            obtain ⟨h1, h2, h3⟩ := runD_mo hc rest _ s1 L1 fr' s' hr
            refine ⟨Nat.le_trans mo1 h1, fun id hw hid => ?_, fun id hw => ?_⟩
            · simp only [orW, Nat.testBit_or, Bool.or_eq_false_iff] at hw
              rw [h2 id hw.2 (by omega)]
              exact mo.kp id hw.1 (by show id < s.nx ∨ _; omega)
            · simp only [orW, orA, Nat.testBit_or, Bool.or_eq_true] at hw ⊢
              have nobit : ∀ j, s.zero.wr.testBit j = true → False := fun j hj => by simp [St.zero] at hj
              rcases hw with hw | hw
              · exact ⟨.inl (mo.wa (fun j hj => (nobit j hj).elim) _ hw), Nat.lt_of_lt_of_le (mo.wl (fun j hj => (nobit j hj).elim) _ hw) h1⟩
              · exact ⟨.inr (h3 id hw).1, (h3 id hw).2⟩
          · cases h
        · cases h
      · cases h
    · split at h
      · split at h
        · rename_i L1 y hr
          cases h
          obtain ⟨h1, h2, h3⟩ := runD_mo hc rest _ s L1 fr' s' hr
          refine ⟨h1, fun id hw hid => ?_, fun id hw => ?_⟩
          · simp only [orW, Nat.testBit_or, Bool.or_eq_false_iff] at hw
            exact h2 id hw.2 hid
          · simp only [orW, orA, Nat.testBit_or, Bool.or_eq_true, Nat.zero_testBit, Bool.false_eq_true, false_or] at hw ⊢
            exact h3 id hw
        · cases h
      · cases h
theorem evD_mo {P : Program} {call : Callee} {ops : Array Oper} {fr fr' : Fr} {s s' : St} (hc : CallOK P call) (h : evD P call ops fr s = some (fr', s')) : Mo s s' := by
  unfold evD at h
  split at h
  · split at h
    · split at h
      · split at h
        · rename_i L fr1 s1 hr
          split at h
          · cases h
            obtain ⟨h1, h2, h3⟩ := runD_mo hc _ _ _ _ _ _ hr
            refine ⟨h1, fun i e => ?_, fun i e => ?_, fun i e hi => ?_, fun e i k => ?_, fun e i k => ?_⟩
            · show (s.ac ||| orA L).testBit i = true
              rw [Nat.testBit_or, e]; rfl
            · show (s.wr ||| orW L).testBit i = true
              rw [Nat.testBit_or, e]; rfl
            · have e : (s.wr ||| orW L).testBit i = false := e
              rw [Nat.testBit_or, Bool.or_eq_false_iff] at e
              exact h2 i e.2 hi
            · have k : (s.wr ||| orW L).testBit i = true := k
              show (s.ac ||| orA L).testBit i = true
              rw [Nat.testBit_or, Bool.or_eq_true] at k ⊢
              exact k.imp (e i) (fun k => (h3 i k).1)
            · have k : (s.wr ||| orW L).testBit i = true := k
              show i < s1.nx
              rw [Nat.testBit_or, Bool.or_eq_true] at k
              rcases k with k | k
              · exact Nat.lt_of_lt_of_le (e i k) h1
              · exact (h3 i k).2
          · cases h
        · cases h
      · cases h
    · cases h
  · cases h

inductive Ex where
  | normal
  | exit (id : Nat)
  | ret
def Ex.to : Ex → Exit
  | .normal => .normal
  | .exit id => .exit id
  | .ret => .ret
def evRes (P : Program) (fr : Fr) : List ResultVar → St → Option (List Value × St)
  | [], s => some ([], s)
  | .tmp t :: rs, s => (evRes P fr rs s).map fun x => (fr.slot t :: x.1, x.2)
  | .cell a t :: rs, s => match evLoad P t (fr.slot a) s with
    | some (v, s1) => (evRes P fr rs s1).map fun x => (v :: x.1, x.2)
    | none => none
def resOf (vs : List Value) : Option Value :=
  match vs with
  | [v] => some v
  | vs => if vs.all noTup then some (.tuple vs.toArray) else none
def evF (P : Program) (run : Code → Fr → St → Option (Ex × Fr × St)) : Callee := fun g args s =>
  match P.funcs.toList[g]? with
  | some fn => match fn.body with
    | some c => if fn.name == "runtime.NumGoroutine" then none else
      match run c ⟨.leaf, args, args.length + (fn.ntmps - args.length)⟩ s with
      | some (ex, fr, s1) => match ex with
        | .exit _ => none
        | _ => match evRes P fr fn.results.toList s1 with
          | some (vs, s2) => (resOf vs).map fun v => (v, s2)
          | none => none
      | none => none
    | none => none
  | none => none
def evC (P : Program) : Nat → Code → Fr → St → Option (Ex × Fr × St)
  | 0, _, _, _ => none
  | n + 1, c, fr, s =>
    match c with
    | .skip => some (.normal, fr, s)
    | .label _ => some (.normal, fr, s)
    | .seq a b => match evC P n a fr s with
      | some (ex, fr1, s1) => match ex with
        | .normal => evC P n b fr1 s1
        | ex => some (ex, fr1, s1)
      | none => none
    | .cond c a b => if okX c then match evalO fr c with
        | .bool t => evC P n (if t then a else b) fr s
        | _ => none
      else none
    | .block id b => match evC P n b fr s with
      | some (ex, fr1, s1) => match ex with
        | .exit id' => if id' = id then some (.normal, fr1, s1) else some (.exit id', fr1, s1)
        | ex => some (ex, fr1, s1)
      | none => none
    | .loop b => match evC P n b fr s with
      | some (ex, fr1, s1) => match ex with
        | .normal => evC P n (.loop b) fr1 s1
        | ex => some (ex, fr1, s1)
      | none => none
    | .scope b => evC P n b fr s
    | .exit id => some (.exit id, fr, s)
    | .ret => some (.ret, fr, s)
    | .region _ ops draw => if draw then (evD P (evF P (evC P n)) ops fr s).map fun x => (.normal, x.1, x.2)
      else if okOps ops.toList then (evOps P (evF P (evC P n)) ops ops.toList fr s).map fun x => (.normal, x.1, x.2) else none
    | _ => none

theorem evRes_mo {P : Program} {fr : Fr} : ∀ (l : List ResultVar) (s s' : St) (vs : List Value), evRes P fr l s = some (vs, s') → Mo s s'
  | [], s, s', vs, h => by simp only [evRes] at h; cases h; exact Mo.refl _
  | .tmp t :: rs, s, s', vs, h => by
    simp only [evRes] at h
    obtain ⟨x, hx, he⟩ := Option.map_eq_some_iff.1 h
    cases he
    exact evRes_mo rs s x.2 x.1 hx
  | .cell a t :: rs, s, s', vs, h => by
    simp only [evRes] at h
    split at h
    · rename_i v s1 hl
      obtain ⟨x, hx, he⟩ := Option.map_eq_some_iff.1 h
      cases he
      exact (evLoad_mo hl).trans (evRes_mo rs s1 x.2 x.1 hx)
    · cases h
def oneRes (tmps : Array Value) : ResultVar → Sem Value
  | .tmp t => pure (tmps.getD t undef)
  | .cell a t => do loadVar t (← asAddr (tmps.getD a undef))
theorem evRes_spec {FP : Nat → Prop} {n0 hi B : Nat} {m : Mu} {H : Nat → Option RO} {w : World} {P : Program} {fr : Fr} {a : Act} (ht : TR m fr a) : ∀ (l : List ResultVar) (s s' : St) (vs : List Value), evRes P fr l s = some (vs, s') → Fits FP n0 hi s' → Inv FP n0 hi B m s H w →
    ∃ vs', (l.mapM (oneRes a.tmps)).run P w = .ok vs' w ∧ dnL (dn m) vs = some vs' ∧ Inv FP n0 hi B m s' H w ∧ Ste B m s H w m s' H w
  | [], s, s', vs, h, hf, hv => by
    simp only [evRes] at h
    cases h
    exact ⟨[], rfl, rfl, hv, Ste.refl _ _ _ _ _⟩
  | .tmp t :: rs, s, s', vs, h, hf, hv => by
    simp only [evRes] at h
    obtain ⟨x, hx, he⟩ := Option.map_eq_some_iff.1 h
    cases he
    obtain ⟨vs', h1, h2, h3, h4⟩ := evRes_spec ht rs s x.2 x.1 hx hf hv
    refine ⟨a.tmps.getD t undef :: vs', ?_, ?_, h3, h4⟩
    · simp only [List.mapM_cons, oneRes, Sem.run_bind, Sem.run_pure, Result.andThen_ok, h1]
    · simp only [dnL, ht.at_ t, h2]
  | .cell b t :: rs, s, s', vs, h, hf, hv => by
    simp only [evRes] at h
    split at h
    · rename_i v s1 hl
      obtain ⟨x, hx, he⟩ := Option.map_eq_some_iff.1 h
      cases he
      have mo := evRes_mo rs s1 x.2 x.1 hx
      obtain ⟨v', g1, g2, g3, g4⟩ := evLoad_same hl (mo.fits hf) hv (ht.at_ b)
      obtain ⟨vs', h1, h2, h3, h4⟩ := evRes_spec ht rs s1 x.2 x.1 hx hf g3
      refine ⟨v' :: vs', ?_, ?_, h3, g4.trans h4⟩
      · obtain ⟨ad, had⟩ := evLoad_ptr hl
        have hb := ht.at_ b
        rw [had] at hb
        obtain ⟨p, hp, he⟩ := dn_ptr hb
        rw [he] at g1
        have g1' : (do loadVar t (← asAddr (a.tmps.getD b undef)) : Sem Value).run P w = .ok v' w := by
          rw [he]
          simpa [Instr.loadAt, Instr.sureAddr, asAddr] using g1
        simp only [List.mapM_cons, oneRes, Sem.run_bind, Sem.run_pure] at g1' ⊢
        rw [g1']
        simp only [Result.andThen_ok, Sem.run_bind, h1, Sem.run_pure]
      · simp only [dnL, g2, h2]
    · cases h
theorem resOf_dn {m : Mu} {vs vs' : List Value} {v : Value} (h : resOf vs = some v) (hd : dnL (dn m) vs = some vs') : ∃ v', dn m v = some v' ∧ (if h : vs'.toArray.size = 1 then vs'.toArray[0] else .tuple vs'.toArray) = v' := by
  unfold resOf at h
  split at h
  · cases h
    simp only [dnL] at hd
    split at hd
    · rename_i x xs h1 h2
      cases h2
      cases hd
      exact ⟨x, h1, rfl⟩
    · cases hd
  · rename_i hne
    split at h
    · rename_i hnt
      cases h
      simp only [List.all_eq_true] at hnt
      have hlen := dnL_length hd
      have h1 : ¬ vs'.toArray.size = 1 := by
        simp only [List.size_toArray, hlen]
        intro e
        obtain ⟨x, hx⟩ := List.length_eq_one_iff.1 e
        exact hne x hx
      rw [dif_neg h1]
      refine ⟨.tuple vs'.toArray, ?_, rfl⟩
      have : dnL (dn2 m) vs = some vs' := by
        rw [dnL_iff] at hd ⊢
        rw [← hd]
        apply List.map_congr_left
        intro x hx
        have hxn := noTup_ne (hnt x hx)
        unfold dn
        split
        · exact absurd rfl (hxn _)
        · rfl
      simp only [dn, this, Option.map_some]
    · cases h
theorem run_results {P : Program} {fn : Func} {tmps : Array Value} {w : World} {vs : List Value} (h : (fn.results.toList.mapM (oneRes tmps)).run P w = .ok vs w) :
    (results fn tmps).run P w = .ok (if h : vs.toArray.size = 1 then vs.toArray[0] else .tuple vs.toArray) w := by
  have e : (Array.toList <$> fn.results.mapM (oneRes tmps) : Sem (List Value)) = fn.results.toList.mapM (oneRes tmps) := by
    rw [Array.toList_mapM]
  rw [← e, Sem.run_map] at h
  have hr : (fn.results.mapM (oneRes tmps)).run P w = .ok vs.toArray w := by
    cases hx : (fn.results.mapM (oneRes tmps)).run P w with
    | ok A w' =>
      rw [hx] at h
      simp only [Result.andThen_ok] at h
      injection h with h1 h2
      rw [← h1, h2]
    | halt x w' => rw [hx] at h; cases h
  have e2 : results fn tmps = (do let vs ← fn.results.mapM (oneRes tmps); pure (if h : vs.size = 1 then vs[0] else .tuple vs)) := by
    unfold results
    congr 1
  rw [e2, Sem.run_bind, hr]
  rfl
theorem TR.start {m : Mu} {args args' : List Value} {k : Nat} (h : dnL (dn m) args = some args') : TR m ⟨.leaf, args, args.length + (k - args.length)⟩ { tmps := args'.toArray ++ Array.replicate (k - args'.toArray.size) undef, defers := [] } := by
  have hl := dnL_length h
  refine ⟨by simp [hl], rfl, fun t => ?_⟩
  unfold Fr.slot
  simp only [Tr.get]
  rw [Array.getD_eq_getD_getElem?, Array.getElem?_append]
  simp only [List.size_toArray, hl]
  cases ha : args[t]? with
  | some v =>
    have hlt := (List.getElem?_eq_some_iff.1 ha).1
    obtain ⟨v', hv', hd⟩ := dnL_at h ha
    rw [if_pos hlt]
    simp [hv', hd]
  | none =>
    have hge : args.length ≤ t := List.getElem?_eq_none_iff.1 ha
    rw [if_neg (by omega)]
    simp only [Array.getElem?_replicate]
    split <;> rfl
end Go.Ev
namespace Go.Ev
open Go.RowKit
set_option linter.unusedSimpArgs false
set_option linter.unnecessarySimpa false
set_option linter.unusedVariables false

/-- of code with so much fuel -/
structure Says (P : Program) (n : Nat) : Prop where
  mo : ∀ {c : Code} {fr fr' : Fr} {s s' : St} {ex : Ex}, evC P n c fr s = some (ex, fr', s') → Mo s s'
  wp : ∀ {c : Code} {fr fr' : Fr} {s s' : St} {ex : Ex} {FP : Nat → Prop} {n0 hi B : Nat} {m : Mu} {H : Nat → Option RO} {w : World} {a : Act} {Q : Exit → Act → World → Prop}, evC P n c fr s = some (ex, fr', s') → Fits FP n0 hi s' → Inv FP n0 hi B m s H w → TR m fr a →
    (∀ a' w' m' H', TR m' fr' a' → Inv FP n0 hi B m' s' H' w' → Ste B m s H w m' s' H' w' → Q ex.to a' w') → c.wp P Q a w
  rounds : ∀ {b : Code} {fr fr' : Fr} {s s' : St} {ex : Ex} {FP : Nat → Prop} {n0 hi B : Nat} {m : Mu} {H : Nat → Option RO} {w : World} {a : Act} {Q : Exit → Act → World → Prop}, evC P n (.loop b) fr s = some (ex, fr', s') → Fits FP n0 hi s' → Inv FP n0 hi B m s H w → TR m fr a →
    (∀ a' w' m' H', TR m' fr' a' → Inv FP n0 hi B m' s' H' w' → Ste B m s H w m' s' H' w' → Q ex.to a' w') → Code.rounds P b Q n a w
theorem evF_split {P : Program} {run : Code → Fr → St → Option (Ex × Fr × St)} {g : FuncId} {args : List Value} {s s' : St} {v : Value} (h : evF P run g args s = some (v, s')) :
    ∃ fn c ex fr s1 vs, P.funcs[g]? = some fn ∧ fn.body = some c ∧ (fn.name == "runtime.NumGoroutine") = false ∧ run c ⟨.leaf, args, args.length + (fn.ntmps - args.length)⟩ s = some (ex, fr, s1) ∧ (∀ id, ex ≠ .exit id) ∧
      evRes P fr fn.results.toList s1 = some (vs, s') ∧ resOf vs = some v := by
  unfold evF at h
  split at h
  · rename_i fn hfn
    have hfn : P.funcs[g]? = some fn := by simpa using hfn
    split at h
    · rename_i c hc
      split at h
      · cases h
      · rename_i hname
        split at h
        · rename_i ex fr s1 hr
          split at h
          · cases h
          · rename_i hex
            split at h
            · rename_i vs s2 hres
              obtain ⟨v1, hv1, he⟩ := Option.map_eq_some_iff.1 h
              obtain ⟨rfl, rfl⟩ := Prod.mk.inj he
              exact ⟨fn, c, ex, fr, s1, vs, hfn, hc, by simpa using hname, hr, fun id e => hex id e, hres, hv1⟩
            · cases h
        · cases h
    · cases h
  · cases h
theorem Says.call {P : Program} {n : Nat} (h : Says P n) : CallOK P (evF P (evC P n)) := by
  refine ⟨fun {g args s v s'} he => ?_, fun {g args s v s'} he => ?_, fun {FP n0 hi B m s s' H w g args args' v} he hf hv hd => ?_⟩
  · obtain ⟨fn, c, ex, fr, s1, vs, _, _, _, h4, _, h6, _⟩ := evF_split he
    exact (h.mo h4).trans (evRes_mo _ _ _ _ h6)
  · obtain ⟨fn, c, ex, fr, s1, vs, h1, h2, h3, _⟩ := evF_split he
    exact ⟨fn, h1, h3, by rw [h2]; rfl⟩
  · obtain ⟨fn, c, ex, fr, s1, vs, h1, h2, h3, h4, h5, h6, h7⟩ := evF_split he
    have mo2 := evRes_mo _ _ _ _ h6
    refine calls_of_wp h1 h2 ?_
    refine h.wp h4 (mo2.fits hf) hv (TR.start hd) ?_
    intro a' w' m' H' ht' hv' hst
    obtain ⟨vs', g1, g2, g3, g4⟩ := evRes_spec ht' _ _ _ _ h6 hf hv'
    obtain ⟨v', k1, k2⟩ := resOf_dn h7 g2
    have hr := run_results g1
    rw [k2] at hr
    have hfin : a'.defers = [] ∧ ∃ u, (results fn a'.tmps).run P w' = .ok u w' ∧ Ret FP n0 hi B m s H w v s' (.returned u) w' :=
      ⟨ht'.defers, v', hr, v', m', H', rfl, k1, g3, hst.trans g4⟩
    cases ex with
    | normal => exact hfin
    | ret => exact hfin
    | exit id => exact absurd rfl (h5 id)
theorem says (P : Program) (hm : P.follows .mixedOrders = true) : ∀ n, Says P n
  | 0 => ⟨(fun h => by cases h), (fun h => by cases h), (fun h => by cases h)⟩
  | n + 1 => by
    have ih := says P hm n
    have hc := ih.call
    have loop : ∀ {b : Code} {fr fr' : Fr} {s s' : St} {ex : Ex} {FP : Nat → Prop} {n0 hi B : Nat} {m : Mu} {H : Nat → Option RO} {w : World} {a : Act} {Q : Exit → Act → World → Prop}, evC P (n + 1) (.loop b) fr s = some (ex, fr', s') → Fits FP n0 hi s' → Inv FP n0 hi B m s H w → TR m fr a →
        (∀ a' w' m' H', TR m' fr' a' → Inv FP n0 hi B m' s' H' w' → Ste B m s H w m' s' H' w' → Q ex.to a' w') → Code.rounds P b Q (n + 1) a w := by
      intro b fr fr' s s' ex FP n0 hi B m H w a Q h hf hv ht hQ
      simp only [evC] at h
      rw [rounds_succ]
      split at h
      · rename_i ex1 fr1 s1 h1
        split at h
        · refine ih.wp h1 ((ih.mo h).fits hf) hv ht ?_
          intro a' w' m' H' ht' hv' hst
          exact ih.rounds h hf hv' ht' fun a2 w2 m2 H2 t2 v2 st2 => hQ a2 w2 m2 H2 t2 v2 (hst.trans st2)
        · rename_i hne
          cases h
          refine ih.wp h1 hf hv ht ?_
          intro a' w' m' H' ht' hv' hst
          have := hQ a' w' m' H' ht' hv' hst
          cases ex with
          | normal => exact absurd rfl hne
          | ret => exact this
          | exit id => exact this
      · cases h
    refine ⟨fun {c fr fr' s s' ex} h => ?_, fun {c fr fr' s s' ex FP n0 hi B m H w a Q} h hf hv ht hQ => ?_, loop⟩
    · cases c <;> simp only [evC] at h
      case skip => cases h; exact Mo.refl _
      case label => cases h; exact Mo.refl _
      case exit => cases h; exact Mo.refl _
      case ret => cases h; exact Mo.refl _
      case seq x y =>
        split at h
        · rename_i h1
          split at h
          · exact (ih.mo h1).trans (ih.mo h)
          · cases h; exact ih.mo h1
        · cases h
      case cond =>
        split at h
        · split at h
          · exact ih.mo h
          · cases h
        · cases h
      case block =>
        split at h
        · rename_i h1
          split at h
          · split at h
            · cases h; exact ih.mo h1
            · cases h; exact ih.mo h1
          · cases h; exact ih.mo h1
        · cases h
      case loop =>
        split at h
        · rename_i h1
          split at h
          · exact (ih.mo h1).trans (ih.mo h)
          · cases h; exact ih.mo h1
        · cases h
      case scope => exact ih.mo h
      case region id ops draw =>
        split at h
        · obtain ⟨x, hx, he⟩ := Option.map_eq_some_iff.1 h
          cases he
          exact evD_mo (fr' := x.1) hc hx
        · split at h
          · obtain ⟨x, hx, he⟩ := Option.map_eq_some_iff.1 h
            cases he
            exact evOps_mo (fr' := x.1) hc ops _ _ _ hx
          · cases h
      all_goals cases h
    · cases c
      case skip => simp only [evC] at h; cases h; exact wp_skip (hQ a w m H ht hv (Ste.refl _ _ _ _ _))
      case label => simp only [evC] at h; cases h; exact wp_label (hQ a w m H ht hv (Ste.refl _ _ _ _ _))
      case exit => simp only [evC] at h; cases h; exact wp_exit (hQ a w m H ht hv (Ste.refl _ _ _ _ _))
      case ret => simp only [evC] at h; cases h; exact wp_ret (hQ a w m H ht hv (Ste.refl _ _ _ _ _))
      case seq x y =>
        simp only [evC] at h
        split at h
        · rename_i ex1 fr1 s1 h1
          split at h
          · refine wp_seq (ih.wp h1 ((ih.mo h).fits hf) hv ht ?_)
            intro a' w' m' H' ht' hv' hst
            exact ih.wp h hf hv' ht' fun a2 w2 m2 H2 t2 v2 st2 => hQ a2 w2 m2 H2 t2 v2 (hst.trans st2)
          · rename_i hne
            cases h
            refine wp_seq (ih.wp h1 hf hv ht ?_)
            intro a' w' m' H' ht' hv' hst
            have := hQ a' w' m' H' ht' hv' hst
            cases ex with
            | normal => exact absurd rfl hne
            | ret => exact this
            | exit id => exact this
        · cases h
      case cond c x y =>
        simp only [evC] at h
        split at h
        · rename_i hok
          split at h
          · rename_i t hval
            have he := ht.eval hok
            rw [hval] at he
            exact wp_cond (Option.some.inj he).symm (ih.wp h hf hv ht hQ)
          · cases h
        · cases h
      case block id b =>
        simp only [evC] at h
        split at h
        · rename_i ex1 fr1 s1 h1
          split at h
          · rename_i id'
            split at h
            · rename_i hid
              cases h
              refine wp_block (ih.wp h1 hf hv ht ?_)
              intro a' w' m' H' ht' hv' hst
              have := hQ a' w' m' H' ht' hv' hst
              simp only [Ex.to, Exit.inBlock, hid, if_true]
              exact this
            · rename_i hid
              cases h
              refine wp_block (ih.wp h1 hf hv ht ?_)
              intro a' w' m' H' ht' hv' hst
              have := hQ a' w' m' H' ht' hv' hst
              simp only [Ex.to, Exit.inBlock, hid, if_false]
              exact this
          · rename_i hne
            cases h
            refine wp_block (ih.wp h1 hf hv ht ?_)
            intro a' w' m' H' ht' hv' hst
            have := hQ a' w' m' H' ht' hv' hst
            cases ex with
            | normal => exact this
            | ret => exact this
            | exit id' => exact absurd rfl (hne id')
        · cases h
      case loop b => exact wp_loop_rounds (n + 1) (loop h hf hv ht hQ)
      case scope b =>
        simp only [evC] at h
        refine wp_scope_straight (ih.wp h hf hv ht ?_)
        intro a' w' m' H' ht' hv' hst
        have := hQ a' w' m' H' ht' hv' hst
        cases ex with
        | normal => exact this
        | ret => exact this
        | exit id => exact this
      case region id ops draw =>
        simp only [evC] at h
        split at h
        · rename_i hdr
          subst hdr
          obtain ⟨x, hx, he⟩ := Option.map_eq_some_iff.1 h
          cases he
          exact evD_wp (fr' := x.1) hm hc hx hf hv ht hQ
        · rename_i hdr
          have hdr : draw = false := by simpa using hdr
          subst hdr
          split at h
          · rename_i hok
            obtain ⟨x, hx, he⟩ := Option.map_eq_some_iff.1 h
            cases he
            exact wp_region_list (evOps_wp (fr' := x.1) hc ops _ _ _ _ _ _ _ hok hx hf hv ht hQ)
          · cases h
      all_goals (simp only [evC] at h; cases h)
/-- a closed call: what comes out, and that nothing old has turned -/
def st0 : St := { hp := .leaf, nx := 0, ac := 0, wr := 0 }
theorem closed_call {P : Program} (hm : P.follows .mixedOrders = true) (n : Nat) {g : FuncId} {args : List Value} {v : Value} {s' : St} (h : evF P (evC P n) g args st0 = some (v, s')) (hv : cl v = true) (ha : args.all cl = true) (w : World) :
    Calls P g args.toArray w fun e w' => e = .returned v ∧ Below w.heap.size w w' := by
  have hok := (says P hm n).call
  have hinv : Inv (fun _ => True) 0 s'.nx w.heap.size emp st0 (fun _ => none) w :=
    ⟨⟨(fun _ _ h => by cases h), (fun _ _ _ _ _ _ h => by cases h)⟩, fun _ _ _ => rfl, fun _ _ _ => ⟨rfl, rfl⟩, Nat.le_refl _, Nat.le_refl _⟩
  have hargs : dnL (dn emp) args = some args := by
    rw [dnL_iff]
    apply List.map_congr_left
    intro x hx
    simp only [List.all_eq_true] at ha
    exact cl_dn (ha x hx) emp
  refine (hok.sp h ⟨Nat.le_refl _, fun _ _ _ => trivial⟩ hinv hargs).mono ?_
  rintro e w' ⟨v', m', H', rfl, h1, h2, h3⟩
  rw [cl_eq hv h1]
  exact ⟨rfl, h3.bel⟩
end Go.Ev
namespace Go.Ev
open Go.RowKit
set_option linter.unusedSimpArgs false
set_option linter.unnecessarySimpa false
set_option linter.unusedVariables false

def evTrue (P : Program) (n k : Nat) (g : FuncId) (args : List Value) : Bool :=
  match evF P (evC P n) g args { hp := .leaf, nx := k, ac := 0, wr := 0 } with
  | some (.bool true, _) => true
  | _ => false
/-- blocks that came in, none of which is looked at, bear the names below k -/
theorem true_call {P : Program} (hm : P.follows .mixedOrders = true) (n k : Nat) {g : FuncId} {args args' : List Value} (h : evTrue P n k g args = true) (m0 : Mu) (hk : ∀ i, k ≤ i → m0 i = none) (hd : dnL (dn m0) args = some args') (w : World) :
    Calls P g args'.toArray w fun e w' => e = .returned (.bool true) ∧ Below w.heap.size w w' := by
  unfold evTrue at h
  split at h
  · rename_i s' he
    have hok := (says P hm n).call
    have hinv : Inv (fun _ => True) 0 s'.nx w.heap.size m0 { hp := .leaf, nx := k, ac := 0, wr := 0 } (fun _ => none) w :=
      ⟨⟨(fun _ _ h => by cases h), (fun _ _ _ _ _ _ h => by cases h)⟩, fun _ _ _ => rfl, fun i hi _ => ⟨hk i hi, rfl⟩, Nat.zero_le _, Nat.le_refl _⟩
    refine (hok.sp he ⟨Nat.le_refl _, fun _ _ _ => trivial⟩ hinv hd).mono ?_
    rintro e w' ⟨v', m', H', rfl, h1, h2, h3⟩
    have h1 : some (Value.bool true) = some v' := h1
    cases h1
    exact ⟨rfl, h3.bel⟩
  · cases h
theorem true_closed {P : Program} (hm : P.follows .mixedOrders = true) (n : Nat) {g : FuncId} {args : List Value} (h : evTrue P n 0 g args = true) (ha : args.all cl = true) (w : World) :
    Calls P g args.toArray w fun e w' => e = .returned (.bool true) ∧ Below w.heap.size w w' := by
  refine true_call hm n 0 h emp (fun _ _ => rfl) ?_ w
  rw [dnL_iff]
  apply List.map_congr_left
  intro x hx
  simp only [List.all_eq_true] at ha
  exact cl_dn (ha x hx) emp

theorem list_1 {α : Type} : ∀ {l : List α}, l.length = 1 → ∃ x0, l = [x0]
  | [x0], _ => ⟨_, rfl⟩
theorem list_2 {α : Type} : ∀ {l : List α}, l.length = 2 → ∃ x0 x1, l = [x0, x1]
  | [x0, x1], _ => ⟨_, _, rfl⟩
theorem list_3 {α : Type} : ∀ {l : List α}, l.length = 3 → ∃ x0 x1 x2, l = [x0, x1, x2]
  | [x0, x1, x2], _ => ⟨_, _, _, rfl⟩
theorem list_4 {α : Type} : ∀ {l : List α}, l.length = 4 → ∃ x0 x1 x2 x3, l = [x0, x1, x2, x3]
  | [x0, x1, x2, x3], _ => ⟨_, _, _, _, rfl⟩
theorem list_5 {α : Type} : ∀ {l : List α}, l.length = 5 → ∃ x0 x1 x2 x3 x4, l = [x0, x1, x2, x3, x4]
  | [x0, x1, x2, x3, x4], _ => ⟨_, _, _, _, _, rfl⟩
theorem list_6 {α : Type} : ∀ {l : List α}, l.length = 6 → ∃ x0 x1 x2 x3 x4 x5, l = [x0, x1, x2, x3, x4, x5]
  | [x0, x1, x2, x3, x4, x5], _ => ⟨_, _, _, _, _, _, rfl⟩
theorem list_7 {α : Type} : ∀ {l : List α}, l.length = 7 → ∃ x0 x1 x2 x3 x4 x5 x6, l = [x0, x1, x2, x3, x4, x5, x6]
  | [x0, x1, x2, x3, x4, x5, x6], _ => ⟨_, _, _, _, _, _, _, rfl⟩
theorem list_8 {α : Type} : ∀ {l : List α}, l.length = 8 → ∃ x0 x1 x2 x3 x4 x5 x6 x7, l = [x0, x1, x2, x3, x4, x5, x6, x7]
  | [x0, x1, x2, x3, x4, x5, x6, x7], _ => ⟨_, _, _, _, _, _, _, _, rfl⟩
theorem list_9 {α : Type} : ∀ {l : List α}, l.length = 9 → ∃ x0 x1 x2 x3 x4 x5 x6 x7 x8, l = [x0, x1, x2, x3, x4, x5, x6, x7, x8]
  | [x0, x1, x2, x3, x4, x5, x6, x7, x8], _ => ⟨_, _, _, _, _, _, _, _, _, rfl⟩
theorem list_10 {α : Type} : ∀ {l : List α}, l.length = 10 → ∃ x0 x1 x2 x3 x4 x5 x6 x7 x8 x9, l = [x0, x1, x2, x3, x4, x5, x6, x7, x8, x9]
  | [x0, x1, x2, x3, x4, x5, x6, x7, x8, x9], _ => ⟨_, _, _, _, _, _, _, _, _, _, rfl⟩
theorem dnL_cons {f : Value → Option Value} {v x : Value} {vs xs : List Value} (h : f v = some x) (k : dnL f vs = some xs) : dnL f (v :: vs) = some (x :: xs) := by
  simp only [dnL, h, k]
/-- one block that came in -/
def oneName (a : Addr) (c : Nat) : Mu := fun i => if i = 0 then some (a.block, c) else none
theorem oneName_none (a : Addr) (c : Nat) : ∀ i, 1 ≤ i → oneName a c i = none := fun i hi => by unfold oneName; rw [if_neg (by omega)]
theorem name_one (a : Addr) (n c : Nat) : dn (oneName a c) (.slice (some ⟨0, a.off, a.spot⟩) n unk) = some (.slice (some a) n c) := by
  rw [mk_slice (p := (a.block, c)) rfl, capOf_unk]
section
variable {P : Program} {w : World} {r : Reach} {base : Nat} {t : TypeId} {v : Value}
/-- a struct by value: its cells, each of its type -/
theorem open_cells {fs : Array Field} {ts : List TypeId} (hu : P.underlying t = some (.struct fs)) (hts : P.cellTypes P.depth t = some ts) (hn : P.cellsOf t = ts.length) (h : Value.okWide P w r base t v) :
    ∃ l : List Value, v = .agg l.toArray ∧ l.length = ts.length ∧ ∀ (i : Nat) (u : TypeId) (x : Value), ts[i]? = some u → l[i]? = some x → Cell.okWide P w r base u x := by
  simp only [Value.okWide, hu] at h
  obtain ⟨cs, rfl, hsz, ts', h1, _, h2⟩ := h
  rw [hts] at h1; cases h1
  refine ⟨cs.toList, by simp, by simp [hsz, hn], fun i u x hi hx => ?_⟩
  have hlt : i < ts.length := (List.getElem?_eq_some_iff.1 hi).1
  obtain ⟨u', h3, h4⟩ := h2 i x (by simpa using hx)
  rw [Nat.mod_eq_of_lt hlt, hi] at h3
  cases h3
  exact h4
theorem cell_int {k : IntKind} (hu : P.underlying t = some (.int k)) (h : Cell.okWide P w r base t v) : ∃ n, v = .int k n := by
  simp only [Cell.okWide, hu] at h
  cases v <;> simp_all [Cell.ok]
theorem cell_bool (hu : P.underlying t = some .bool) (h : Cell.okWide P w r base t v) : ∃ b, v = .bool b := by
  simp only [Cell.okWide, hu] at h
  cases v <;> simp_all [Cell.ok]
theorem cell_string (hu : P.underlying t = some .string) (h : Cell.okWide P w r base t v) : ∃ s, v = .string s := by
  simp only [Cell.okWide, hu] at h
  cases v <;> simp_all [Cell.ok]
theorem value_slice {e : TypeId} (hu : P.underlying t = some (.slice e)) (h : Value.okWide P w r base t v) : v = .slice none 0 0 ∨ ∃ a n c, v = .slice (some a) n c := by
  simp only [Value.okWide, hu, Cell.okWide] at h
  cases v with
  | slice a n c =>
    cases a with
    | none =>
      left
      cases n <;> cases c <;> simp_all [Cell.ok]
    | some a => exact .inr ⟨a, n, c, rfl⟩
  | _ => simp_all [Cell.ok]
end
end Go.Ev
namespace Go.Proofs.Ytkdiibgjkipdnaa
theorem mixed : Try.prog.follows .mixedOrders = true := by kernel_rfl
end Go.Proofs.Ytkdiibgjkipdnaa
