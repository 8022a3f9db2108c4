/-
  An evaluator of closed runs, fourteenth part: a region that draws its order ends as in the text's order: the proof.
-/
import Derived.Test.YtgndpodeedjohaaEvM
namespace Go.Ev
open Go.RowKit
set_option linter.unusedSimpArgs false
set_option linter.unnecessarySimpa false
set_option linter.unusedVariables false

open Classical in
/-- memory, where it is coupled, as the operations of S have left it -/
noncomputable def VH (FP : Nat → Prop) (n0 hi : Nat) (X : Nat → Option RO) (H : Nat → Option RO) : Nat → Option RO :=
  fun id => if id < hi ∧ (FP id ∨ n0 ≤ id) then X id else H id
theorem VH_in {FP : Nat → Prop} {n0 hi : Nat} {X H : Nat → Option RO} {id : Nat} (h : id < hi) (k : FP id ∨ n0 ≤ id) : VH FP n0 hi X H id = X id := by
  unfold VH
  rw [if_pos ⟨h, k⟩]
theorem VH_out {FP : Nat → Prop} {n0 hi : Nat} {X H : Nat → Option RO} {id : Nat} (h : ¬ (id < hi ∧ (FP id ∨ n0 ≤ id))) : VH FP n0 hi X H id = H id := by
  unfold VH
  rw [if_neg h]
set_option maxHeartbeats 1000000 in
theorem evD_wp {FP : Nat → Prop} {n0 hi B : Nat} {m : Mu} {s s' : St} {H : Nat → Option RO} {w : World} {P : Program} {call : Callee} {ops : Array Oper} {id0 : Nat} {fr fr' : Fr} {a : Act} {Q : Exit → Act → World → Prop}
    (hm : P.follows .mixedOrders = true) (hc : CallOK P call) (h : evD P call ops fr s = some (fr', s')) (hf : Fits FP n0 hi s') (hv : Inv FP n0 hi B m s H w) (ht : TR m fr a)
    (hQ : ∀ a' w' m' H', TR m' fr' a' → Inv FP n0 hi B m' s' H' w' → Ste B m s H w m' s' H' w' → Q .normal a' w') : (Code.region id0 ops true).wp P Q a w := by
  unfold evD at h
  split at h
  case isFalse => cases h
  rename_i hok
  split at h
  case h_2 => cases h
  rename_i pml hpm
  split at h
  case isFalse => cases h
  rename_i hokT
  split at h
  case h_2 => cases h
  rename_i L fr1 s1 hrun
  split at h
  case isFalse => cases h
  rename_i hokH
  cases h
  obtain ⟨hL, F, T, f0, t0, fn, tn, hall⟩ := runD_spec _ _ _ _ _ _ hrun
  obtain ⟨hpl, _, hpms⟩ := pmsGo_spec _ _ _ hpm
  simp only [List.length_nil, Nat.zero_add] at hpl hpms
  generalize hn : ops.toList.length = n at *
  have hnsz : ops.size = n := by simpa using hn
  -- what each operation did
  have hz : ∀ i, i ≤ n → (T i).ac = 0 ∧ (T i).wr = 0 := by
    intro i hi'
    cases i with
    | zero => rw [t0]; exact ⟨rfl, rfl⟩
    | succ i =>
      obtain ⟨r, _, v, si, _, e, _⟩ := hall i ops.toList[i] (by simp [show i < ops.size by omega])
      rw [e]; exact ⟨rfl, rfl⟩
  have hD : ∀ i, i < n → ∃ o r v si, ops.toList[i]? = some o ∧ L[i]? = some r ∧ r = ⟨(T i).nx, si.nx, si.wr, si.ac⟩ ∧ T (i + 1) = si.zero ∧ (F i).put o.dst v = some (F (i + 1)) ∧ Mo (T i) si ∧
      ((evWanted ops (F i) o = true ∧ evStep P call o (F i) (T i) = some (v, si)) ∨ (evWanted ops (F i) o = false ∧ v = undef ∧ si = T i)) := by
    intro i hi'
    have ho : ops.toList[i]? = some ops.toList[i] := by simp [show i < ops.size by omega]
    obtain ⟨r, hr, v, si, e1, e2, e3, e4⟩ := hall i _ ho
    refine ⟨_, r, v, si, ho, hr, e1, e2, e3, ?_, e4⟩
    rcases e4 with ⟨_, h2⟩ | ⟨_, _, h2⟩
    · exact evStep_mo hc h2
    · subst h2; exact Mo.refl _
  have hnx1 : ∀ i, i < n → (T i).nx ≤ (T (i + 1)).nx := by
    intro i hi'
    obtain ⟨o, r, v, si, _, _, _, e2, _, mo, _⟩ := hD i hi'
    rw [e2]; exact mo.nx
  have hnx : ∀ d i, i + d ≤ n → (T i).nx ≤ (T (i + d)).nx := by
    intro d
    induction d with
    | zero => intro i _; exact Nat.le_refl _
    | succ d ih =>
      intro i hi'
      exact Nat.le_trans (ih i (by omega)) (hnx1 (i + d) (by omega))
  have hnx' : ∀ i j, i ≤ j → j ≤ n → (T i).nx ≤ (T j).nx := by
    intro i j hij hj
    have := hnx (j - i) i (by omega)
    rwa [show i + (j - i) = j by omega] at this
  have hT0 : (T 0).nx = s.nx := by rw [t0]; rfl
  have hTn : (T n).nx = s1.nx := by rw [tn]
  let σt : Nat → Nat → Value := fun i t => (F i).slot t
  let Wt : Nat → Nat → Bool := fun i t => match ops.toList[i]? with | some o => (tw o).testBit t | none => false
  let At : Nat → Nat → Bool := fun i t => match ops.toList[i]? with | some o => (tr ops o).testBit t || (tw o).testBit t | none => false
  let σh : Nat → Nat → Option RO := fun i id => (T i).hp.get id
  let Wh : Nat → Nat → Bool := fun i id => match L[i]? with | some r => (wOf r).testBit id | none => false
  let Ah : Nat → Nat → Bool := fun i id => match L[i]? with | some r => (aOf r).testBit id | none => false
  let pmf : Nat → Nat → Bool := fun i j => match pml[i]? with | some k => k.testBit j | none => false
  have hWt : ∀ {i o} (t : Nat), ops.toList[i]? = some o → (Wt i t = true ↔ o.dst = some t) := by
    intro i o t ho
    show (match ops.toList[i]? with | some o => (tw o).testBit t | none => false) = true ↔ _
    rw [ho]; exact tw_bit
  have hAt : ∀ {i o} (t : Nat), ops.toList[i]? = some o → At i t = ((tr ops o).testBit t || (tw o).testBit t) := by
    intro i o t ho
    show (match ops.toList[i]? with | some o => (tr ops o).testBit t || (tw o).testBit t | none => false) = _
    rw [ho]
  have hWh : ∀ {i r} (id : Nat), L[i]? = some r → Wh i id = (wOf r).testBit id := by
    intro i r id hr
    show (match L[i]? with | some r => (wOf r).testBit id | none => false) = _
    rw [hr]
  have hAh : ∀ {i r} (id : Nat), L[i]? = some r → Ah i id = (aOf r).testBit id := by
    intro i r id hr
    show (match L[i]? with | some r => (aOf r).testBit id | none => false) = _
    rw [hr]
  have hpmf : ∀ {i k} (j : Nat), pml[i]? = some k → pmf i j = k.testBit j := by
    intro i k j hk
    show (match pml[i]? with | some k => k.testBit j | none => false) = _
    rw [hk]
  have hpk : ∀ i, i < n → ∃ k, pml[i]? = some k := fun i hi' => ⟨pml[i], by simp [hpl, hi']⟩
  -- of memory: an operation writes what is its own, or what it looks at
  have hW1 : ∀ {i r} (id : Nat), i < n → L[i]? = some r → (wOf r).testBit id = true → ((r.w.testBit id = true ∧ r.a.testBit id = true) ∨ r.lo ≤ id) ∧ id < r.hi := by
    intro i r id hi' hr hb
    obtain ⟨o, r', v, si, _, hr', e1, e2, _, mo, _⟩ := hD i hi'
    rw [hr] at hr'; cases hr'
    subst e1
    have z := hz i (by omega)
    have nobit : ∀ j, (T i).wr.testBit j = true → False := fun j hj => by rw [z.2] at hj; simp at hj
    unfold wOf at hb
    rw [Nat.testBit_or, Bool.or_eq_true] at hb
    rcases hb with hb | hb
    · exact ⟨.inl ⟨hb, mo.wa (fun j hj => (nobit j hj).elim) _ hb⟩, mo.wl (fun j hj => (nobit j hj).elim) _ hb⟩
    · have := rng_bit.1 hb
      exact ⟨.inr this.1, this.2⟩
  have tidyT : Tidy n σt Wt At pmf := by
    refine ⟨fun i l hi' hW => ?_, fun i l hi' hW => ?_, fun i j l hij hj hcf => ?_⟩
    · obtain ⟨o, r, v, si, ho, _, _, _, hp, _⟩ := hD i hi'
      show (F (i + 1)).slot l = (F i).slot l
      rw [(put_slot hp).2.2 l, if_neg]
      intro hd
      rw [(hWt l ho).2 hd] at hW; cases hW
    · obtain ⟨o, r, v, si, ho, _⟩ := hD i hi'
      rw [hAt l ho, tw_bit.2 ((hWt l ho).1 hW), Bool.or_true]
    · obtain ⟨oi, _, _, _, hoi, _⟩ := hD i (by omega)
      obtain ⟨oj, _, _, _, hoj, _⟩ := hD j hj
      obtain ⟨ki, hki⟩ := hpk i (by omega)
      obtain ⟨kj, hkj⟩ := hpk j hj
      have hx := allT_spec hokT i j _ _ hij (zip3_at (by rw [List.getElem?_map, hoi]; rfl) (by rw [List.getElem?_map, hoi]; rfl) hki) (zip3_at (by rw [List.getElem?_map, hoj]; rfl) (by rw [List.getElem?_map, hoj]; rfl) hkj)
      simp only [Nat.zero_add] at hx
      rw [hpmf i hkj]
      have hb := conf (wi := tw oi) (ai := tr ops oi) (wj := tw oj) (aj := tr ops oj) (l := l) (by
        rw [hAt l hoj, hAt l hoi, Bool.or_eq_true, Bool.or_eq_true] at hcf
        rcases hcf with ⟨h1, h2⟩ | ⟨h1, h2⟩
        · exact .inl ⟨tw_bit.2 ((hWt l hoi).1 h1), h2⟩
        · exact .inr ⟨tw_bit.2 ((hWt l hoj).1 h1), h2⟩)
      rw [hb, Bool.false_or] at hx
      exact hx
  have tidyH : Tidy n σh Wh Ah pmf := by
    refine ⟨fun i l hi' hW => ?_, fun i l hi' hW => ?_, fun i j l hij hj hcf => ?_⟩
    · obtain ⟨o, r, v, si, _, hr, e1, e2, _, mo, _⟩ := hD i hi'
      rw [hWh l hr] at hW
      subst e1
      unfold wOf at hW
      rw [Nat.testBit_or, Bool.or_eq_false_iff] at hW
      show (T (i + 1)).hp.get l = (T i).hp.get l
      rw [e2]
      refine mo.kp l hW.1 ?_
      have : ¬ ((T i).nx ≤ l ∧ l < si.nx) := fun e => by
        have := rng_bit.2 e
        rw [this] at hW; cases hW.2
      omega
    · obtain ⟨o, r, v, si, _, hr, e1, e2, _, mo, _⟩ := hD i hi'
      rw [hWh l hr] at hW
      rw [hAh l hr]
      have := hW1 l hi' hr hW
      unfold aOf
      rw [Nat.testBit_or, Bool.or_eq_true]
      rcases this.1 with h1 | h1
      · exact .inl h1.2
      · exact .inr (rng_bit.2 ⟨h1, this.2⟩)
    · obtain ⟨_, ri, _, _, _, hri, _⟩ := hD i (by omega)
      obtain ⟨_, rj, _, _, _, hrj, _⟩ := hD j hj
      obtain ⟨ki, hki⟩ := hpk i (by omega)
      obtain ⟨kj, hkj⟩ := hpk j hj
      rw [hpmf i hkj]
      rw [hWh l hri, hAh l hrj, hWh l hrj, hAh l hri] at hcf
      unfold okH at hokH
      rw [Bool.or_eq_true] at hokH
      rcases hokH with h0 | h0
      · simp only [List.all_eq_true] at h0
        have z1 := Nat.eq_of_beq_eq_true (h0 ri (List.mem_of_getElem? hri))
        have z2 := Nat.eq_of_beq_eq_true (h0 rj (List.mem_of_getElem? hrj))
        rw [z1, z2] at hcf
        simp at hcf
      · have hx := allT_spec h0 i j _ _ hij (zip3_at (by rw [List.getElem?_map, hri]; rfl) (by rw [List.getElem?_map, hri]; rfl) hki) (zip3_at (by rw [List.getElem?_map, hrj]; rfl) (by rw [List.getElem?_map, hrj]; rfl) hkj)
        simp only [Nat.zero_add] at hx
        have hb := conf (wi := wOf ri) (ai := aOf ri) (wj := wOf rj) (aj := aOf rj) (l := l) (hcf.imp (fun e => ⟨e.1, .inl e.2⟩) (fun e => ⟨e.1, .inl e.2⟩))
        rw [hb, Bool.false_or] at hx
        exact hx
  have hfn : ∀ i, i ≤ n → (F i).n = fr.n := by
    intro i
    induction i with
    | zero => intro _; rw [f0]
    | succ i ih =>
      intro hi'
      obtain ⟨o, r, v, si, _, _, _, _, hp, _⟩ := hD i (by omega)
      rw [(put_slot hp).1, ih (by omega)]
  have hhi : s1.nx ≤ hi := hf.1
  have hlo : n0 ≤ s.nx := hv.lo
  have hs1 : s.nx ≤ s1.nx := by rw [← hT0, ← hTn]; exact hnx' 0 n (by omega) (Nat.le_refl _)
  have hfa : ∀ {i : Nat} {r : Rc} (id : Nat), L[i]? = some r → r.a.testBit id = true → id < n0 → FP id := by
    intro i r id hr hb hlt
    refine hf.2 id ?_ hlt
    show (s.ac ||| orA L).testBit id = true
    rw [Nat.testBit_or, orA_bit.2 ⟨r, List.mem_of_getElem? hr, hb⟩, Bool.or_true]
  have hσ0 : ∀ id, σh 0 id = s.hp.get id := fun id => by show (T 0).hp.get id = _; rw [t0]; rfl
  -- no operation before i writes behind where i begins
  have hnoW : ∀ {k} (id : Nat), k < n → Wh k id = true → id < (T (k + 1)).nx := by
    intro k id hk hW
    obtain ⟨o, r, v, si, _, hr, e1, e2, _⟩ := hD k hk
    rw [hWh id hr] at hW
    have := (hW1 id hk hr hW).2
    subst e1
    rw [e2]; exact this
  have hcoup : ∀ {k} (id : Nat), k < n → Wh k id = true → id < hi ∧ (FP id ∨ n0 ≤ id) := by
    intro k id hk hW
    have h1 := hnoW id hk hW
    have h2 := hnx' (k + 1) n (by omega) (Nat.le_refl _)
    refine ⟨by omega, ?_⟩
    obtain ⟨o, r, v, si, _, hr, e1, e2, _⟩ := hD k hk
    rw [hWh id hr] at hW
    by_cases h0 : n0 ≤ id
    · exact .inr h0
    · rcases (hW1 id hk hr hW).1 with h3 | h3
      · exact .inl (hfa id hr h3.2 (by omega))
      · subst e1
        have := hnx' 0 k (by omega) (by omega)
        exact .inr (by simp only at h3; omega)
  have hready_mem : ∀ (listed : Array Bool) (i : Nat), listed.size = n → i ∈ Region.ready .any ops listed → i < n ∧ listed.getD i true = false ∧ ∀ o, ops.toList[i]? = some o → ∀ e ∈ o.after.toList, Region.binds .any e = true → listed.getD e.on true = true := by
    intro listed i hsz hi'
    unfold Region.ready at hi'
    rw [List.mem_filter] at hi'
    obtain ⟨h1, h2⟩ := hi'
    have h1 : i < n := by rw [← hnsz]; exact List.mem_range.1 h1
    rw [Bool.and_eq_true] at h2
    refine ⟨h1, by simpa using h2.1, fun o ho e he hb => ?_⟩
    have ho' : ops[i]? = some o := by simpa using ho
    rw [ho'] at h2
    simp only [Option.map_some, Option.getD_some, Array.all_eq_true_iff_forall_mem] at h2
    have := h2.2 e (by simpa using he)
    rw [hb] at this
    simp only [Bool.not_true, Bool.false_or] at this
    have hon := (hpms i o ho).1 e he hb
    have hlt : e.on < listed.size := by omega
    rw [Array.getD_eq_getD_getElem?] at this ⊢
    rw [Array.getElem?_eq_getElem hlt] at this ⊢
    exact this
  have hready_nil : ∀ (listed : Array Bool), listed.size = n → Region.ready .any ops listed = [] → ∀ k, k < n → listed.getD k true = true := by
    intro listed hsz hnil k
    induction k using Nat.strongRecOn with
    | _ k ihk =>
      intro hk
      cases hk0 : listed.getD k true with
      | true => rfl
      | false =>
        exfalso
        have : k ∈ Region.ready .any ops listed := by
          unfold Region.ready
          rw [List.mem_filter]
          refine ⟨List.mem_range.2 (by omega), ?_⟩
          obtain ⟨o, _, _, _, ho, _⟩ := hD k hk
          have ho' : ops[k]? = some o := by simpa using ho
          rw [hk0, ho']
          simp only [Bool.not_false, Bool.true_and, Option.map_some, Option.getD_some, Array.all_eq_true_iff_forall_mem]
          intro e he
          cases hb : Region.binds .any e with
          | false => rfl
          | true =>
            have hon := (hpms k o ho).1 e (by simpa using he) hb
            have := ihk e.on hon (by omega)
            have hlt : e.on < listed.size := by omega
            rw [Array.getD_eq_getD_getElem?] at this ⊢
            rw [Array.getElem?_eq_getElem hlt] at this ⊢
            simpa using this
        rw [hnil] at this
        cases this
  have hfinal : ∀ (S : Nat → Bool) (a1 : Act) (m1 : Mu) (w1 : World), (∀ k, k < n → S k = true) → a1.tmps.size = fr.n → a1.defers = [] → (∀ t, dn m1 (seen σt Wt S n t) = some (a1.tmps.getD t undef)) →
      Vw m1 B (VH FP n0 hi (seen σh Wh S n) H) w1 → Le m m1 → (∀ id, (id < s.nx ∨ s1.nx ≤ id) → m1 id = m id) → Below B w w1 → Q .normal a1 w1 := by
    intro S a1 m1 w1 hS hsa hda htm hvw hle honly hbel
    have hout : ∀ id, (id < s.nx ∨ s1.nx ≤ id) → (∀ (k : Nat) (r : Rc), L[k]? = some r → r.w.testBit id = false) → ∀ k, k < n → Wh k id = false := by
      intro id hid hw k hk
      obtain ⟨o, r, v, si, _, hr, e1, e2, _⟩ := hD k hk
      rw [hWh id hr]
      unfold wOf
      rw [Nat.testBit_or, hw k r hr, Bool.false_or]
      cases hb : (rng r.lo r.hi).testBit id with
      | false => rfl
      | true =>
        have := rng_bit.1 hb
        subst e1
        have g1 := hnx' 0 k (by omega) (by omega)
        have g2 := hnx' (k + 1) n (by omega) (Nat.le_refl _)
        rw [e2] at g2
        simp only [St.zero] at g2 this
        omega
    refine hQ a1 w1 m1 _ ⟨?_, hda, fun t => ?_⟩ ⟨hvw, fun id hid hid' => ?_, fun id hid hid' => ?_, Nat.le_trans hlo hs1, ?_⟩ ⟨hle, fun id hid => honly id hid, fun id hid hwr => ?_, hbel, hs1, fun id e => ?_, fun id e => ?_, fun e id k => ?_⟩
    · rw [hsa, ← fn]; exact (hfn n (Nat.le_refl _)).symm
    · rw [← htm t, seen_all tidyT hS t]
      show _ = dn m1 ((F n).slot t)
      rw [fn]
    · rw [VH_in hid hid', seen_all tidyH hS id]
      show s1.hp.get id = (T n).hp.get id
      rw [tn]
    · have hid : s1.nx ≤ id := hid
      refine ⟨by rw [honly id (.inr hid)]; exact (hv.fr id (by omega) hid').1, ?_⟩
      rw [VH_in hid' (.inr (by omega)), seen_not (fun k hk => ?_)]
      · rw [hσ0, hv.cp id hid' (.inr (by omega))]
        exact (hv.fr id (by omega) hid').2
      · cases hW : Wh k id with
        | false => rfl
        | true =>
          have g1 := hnoW id hk hW
          have g2 := hnx' (k + 1) n (by omega) (Nat.le_refl _)
          omega
    · exact Nat.le_trans hv.base hbel.size
    · have hwr : (s.wr ||| orW L).testBit id = false := hwr
      rw [Nat.testBit_or, Bool.or_eq_false_iff] at hwr
      have hw : ∀ (k : Nat) (r : Rc), L[k]? = some r → r.w.testBit id = false := by
        intro k r hr
        cases hb : r.w.testBit id with
        | false => rfl
        | true => rw [orW_bit.2 ⟨r, List.mem_of_getElem? hr, hb⟩] at hwr; cases hwr.2
      by_cases hcp : id < hi ∧ (FP id ∨ n0 ≤ id)
      · rw [VH_in hcp.1 hcp.2, seen_not (hout id hid hw), hσ0]
        exact hv.cp id hcp.1 hcp.2
      · rw [VH_out hcp]
    · show (s.ac ||| orA L).testBit id = true
      rw [Nat.testBit_or, e]; rfl
    · show (s.wr ||| orW L).testBit id = true
      rw [Nat.testBit_or, e]; rfl
    · have k : (s.wr ||| orW L).testBit id = true := k
      show (s.ac ||| orA L).testBit id = true
      rw [Nat.testBit_or, Bool.or_eq_true] at k ⊢
      rcases k with k | k
      · exact .inl (e id k)
      · right
        obtain ⟨r, hr, hb⟩ := orW_bit.1 k
        obtain ⟨j, hj⟩ := List.getElem?_of_mem hr
        have hjn : j < n := by
          have := (List.getElem?_eq_some_iff.1 hj).1
          omega
        obtain ⟨o, r', v, si, _, hr', e1, e2, _, mo, _⟩ := hD j hjn
        rw [hj] at hr'; cases hr'
        have z := hz j (by omega)
        refine orA_bit.2 ⟨r, hr, ?_⟩
        subst e1
        exact mo.wa (fun q hq => by rw [z.2] at hq; simp at hq) _ hb
  refine wp_region_any hm ?_
  have key : ∀ (fuel : Nat) (listed : Array Bool) (a1 : Act) (m1 : Mu) (w1 : World), listed.size = n → left listed.toList = fuel →
      (∀ k i, k < n → listed.getD k true = true → pmf k i = true → listed.getD i true = true) → a1.tmps.size = fr.n → a1.defers = [] →
      (∀ t, dn m1 (seen σt Wt (fun k => listed.getD k true) n t) = some (a1.tmps.getD t undef)) →
      Vw m1 B (VH FP n0 hi (seen σh Wh (fun k => listed.getD k true) n) H) w1 →
      (∀ i, i < n → listed.getD i true = false → ∀ id, (T i).nx ≤ id → id < (T (i + 1)).nx → m1 id = none) →
      Le m m1 → (∀ id, (id < s.nx ∨ s1.nx ≤ id) → m1 id = m id) → Below B w w1 → wpAny P .any ops Q fuel listed a1 w1 := by
    intro fuel
    induction fuel with
    | zero =>
      intro listed a1 m1 w1 hsz hleft hcl hsa hda htm hvw hfr hle honly hbel
      have hall' : ∀ k, k < n → listed.getD k true = true := by
        intro k hk
        have hlt : k < listed.size := by omega
        rw [Array.getD_eq_getD_getElem?, Array.getElem?_eq_getElem hlt]
        exact left_zero hleft k _ (by simp [hlt])
      refine ⟨?_, hfinal _ a1 m1 w1 hall' hsa hda htm hvw hle honly hbel⟩
      cases hr : Region.ready .any ops listed with
      | nil => rfl
      | cons i is =>
        have := hready_mem listed i hsz (by rw [hr]; simp)
        rw [hall' i this.1] at this
        cases this.2.1
    | succ fuel ih =>
      intro listed a1 m1 w1 hsz hleft hcl hsa hda htm hvw hfr hle honly hbel
      refine ⟨fun hnil => hfinal _ a1 m1 w1 (hready_nil listed hsz hnil) hsa hda htm hvw hle honly hbel, fun i hir => ?_⟩
      obtain ⟨hi', hsi, hedges⟩ := hready_mem listed i hsz hir
      obtain ⟨o, r, v, si, ho, hr, e1, e2, hp, mo, hdid⟩ := hD i hi'
      have hedges := hedges o ho
      obtain ⟨k0, hk0, hk0'⟩ := (hpms i o ho).2
      have hprev : ∀ j, pmf i j = true → listed.getD j true = true := by
        intro j hj
        rw [hpmf j hk0] at hj
        obtain ⟨e, he, hb, hj'⟩ := hk0' j hj
        have hon := (hpms i o ho).1 e he hb
        rcases hj' with rfl | ⟨p, hpp, hpj⟩
        · exact hedges e he hb
        · exact hcl e.on j (by omega) (hedges e he hb) (by rw [hpmf j hpp]; exact hpj)
      generalize hS : (fun k => listed.getD k true) = S at *
      have hSi : S i = false := by rw [← hS]; exact hsi
      have hcl : ∀ k i, k < n → S k = true → pmf k i = true → S i = true := by rw [← hS]; exact hcl
      have hprev : ∀ j, pmf i j = true → S j = true := by rw [← hS]; exact hprev
      have hfr : ∀ i, i < n → S i = false → ∀ id, (T i).nx ≤ id → id < (T (i + 1)).nx → m1 id = none := by rw [← hS]; exact hfr
      have hsinx : (T (i + 1)).nx = si.nx := by rw [e2]; rfl
      have hslot : ∀ t, At i t = true → dn m1 ((F i).slot t) = some (a1.tmps.getD t undef) := by
        intro t hA
        rw [← htm t, seen_at tidyT hcl hi' hSi hprev hA]
      have hwant : Region.wanted o (yielded ops a1.tmps) = evWanted ops (F i) o := by
        unfold Region.wanted evWanted
        cases hg : o.guard with
        | none => rfl
        | some g =>
          obtain ⟨j, b⟩ := g
          simp only
          rw [yield_slot ops j (fun d hd => hslot d (by rw [hAt d ho, tr_guard hg hd, Bool.true_or]))]
      have hx : ∀ x ∈ o.op.operands, dn m1 (evalO (F i) x) = some (a1.eval x) := by
        intro x hxm
        have hok' : okX x = true := by
          simp only [okOps, List.all_eq_true] at hok
          exact hok o (List.mem_of_getElem? ho) x (by simpa using hxm)
        cases x with
        | tmp t => exact hslot t (by rw [hAt t ho, tr_operand hxm, Bool.true_or])
        | const v => exact cl_dn hok' m1
        | global g => cases hok'
        | func f => rfl
      have hX : ∀ id, Ah i id = true → seen σh Wh S n id = (T i).hp.get id := fun id hA => seen_at tidyH hcl hi' hSi hprev hA
      have hAr : ∀ id, Ah i id = true ↔ (si.ac.testBit id = true ∨ ((T i).nx ≤ id ∧ id < si.nx)) := by
        intro id
        rw [hAh id hr]
        subst e1
        unfold aOf
        rw [Nat.testBit_or, Bool.or_eq_true, rng_bit]
      have hWr : ∀ id, Wh i id = true ↔ (si.wr.testBit id = true ∨ ((T i).nx ≤ id ∧ id < si.nx)) := by
        intro id
        rw [hWh id hr]
        subst e1
        unfold wOf
        rw [Nat.testBit_or, Bool.or_eq_true, rng_bit]
      have hsle : si.nx ≤ s1.nx := by rw [← hsinx, ← hTn]; exact hnx' (i + 1) n (by omega) (Nat.le_refl _)
      have hsge : s.nx ≤ (T i).nx := by rw [← hT0]; exact hnx' 0 i (by omega) (by omega)
      have hcoupA : ∀ id, id < si.nx → Ah i id = true → id < hi ∧ (FP id ∨ n0 ≤ id) := by
        intro id hid hA
        refine ⟨by omega, ?_⟩
        by_cases h0 : n0 ≤ id
        · exact .inr h0
        · rcases (hAr id).1 hA with h1 | h1
          · exact .inl (hfa id hr (by subst e1; exact h1) (by omega))
          · exact .inr (by omega)
      have hinv : Inv (fun id => si.ac.testBit id = true) (T i).nx si.nx B m1 (T i) (VH FP n0 hi (seen σh Wh S n) H) w1 := by
        refine ⟨hvw, fun id hid hA => ?_, fun id h1 h2 => ?_, Nat.le_refl _, Nat.le_trans hv.base hbel.size⟩
        · have hA' : Ah i id = true := (hAr id).2 (hA.imp (fun h => h) (fun h => ⟨h, hid⟩))
          obtain ⟨c1, c2⟩ := hcoupA id hid hA'
          rw [VH_in c1 c2, hX id hA']
        · have hA' : Ah i id = true := (hAr id).2 (.inr ⟨h1, h2⟩)
          obtain ⟨c1, c2⟩ := hcoupA id h2 hA'
          refine ⟨hfr i hi' hSi id h1 (by rw [hsinx]; exact h2), ?_⟩
          rw [VH_in c1 c2, seen_none (fun k hk hSk hW => ?_)]
          · rw [hσ0, hv.cp id c1 c2]
            exact (hv.fr id (by omega) c1).2
          · by_cases hki : k < i
            · have g1 := hnoW id hk hW
              have g2 := hnx' (k + 1) i (by omega) (by omega)
              omega
            · by_cases hki' : k = i
              · subst hki'; rw [hSi] at hSk; cases hSk
              · have := hcl k i hk hSk (tidyH.ord i k id (by omega) hk (.inr ⟨hW, hA'⟩))
                rw [hSi] at this; cases this
      have go : ∀ (v' : Value) (w2 : World) (m2 : Mu) (H2 : Nat → Option RO), dn m2 v = some v' → Inv (fun id => si.ac.testBit id = true) (T i).nx si.nx B m2 si H2 w2 → Ste B m1 (T i) (VH FP n0 hi (seen σh Wh S n) H) w1 m2 si H2 w2 → wpAny P .any ops Q fuel (listed.setIfInBounds i true) (a1.put o.dst v') w2 := by
        intro v' w2 m2 H2 hdv hinv2 hst
        have hS' : (fun k => (listed.setIfInBounds i true).getD k true) = with_ S i := by
          funext k
          have hSk : S k = listed.getD k true := by rw [← hS]
          unfold with_
          rw [hSk, Array.getD_eq_getD_getElem?, Array.getD_eq_getD_getElem?, Array.getElem?_setIfInBounds]
          by_cases hki : i = k
          · subst hki
            simp [show i < listed.size by omega]
          · rw [if_neg hki, beq_f (fun e => hki e.symm), Bool.or_false]
        have hS'' : ∀ k, (listed.setIfInBounds i true).getD k true = with_ S i k := fun k => congrFun hS' k
        have hlf : listed.toList[i]? = some false := by
          have hlt : i < listed.size := by omega
          have h1 := hsi
          rw [Array.getD_eq_getD_getElem?, Array.getElem?_eq_getElem hlt] at h1
          simp only [Option.getD_some] at h1
          simp [hlt, h1]
        have hsz2 : (a1.put o.dst v').tmps.size = fr.n := by
          unfold Act.put
          cases o.dst with
          | none => exact hsa
          | some d => simp [hsa]
        have hda2 : (a1.put o.dst v').defers = [] := by
          unfold Act.put
          cases o.dst with
          | none => exact hda
          | some d => exact hda
        refine ih (listed.setIfInBounds i true) (a1.put o.dst v') m2 w2 (by simp [hsz]) ?_ ?_ hsz2 hda2 ?_ ?_ ?_ (hle.trans hst.ext) ?_ (hbel.trans hst.bel)
        · rw [Array.toList_setIfInBounds]
          have := left_set hlf
          omega
        · intro k j hk hk1 hk2
          rw [hS''] at hk1 ⊢
          by_cases hki : k = i
          · subst hki
            have := hprev j hk2
            unfold with_
            rw [this]; rfl
          · rw [with_ne hki] at hk1
            have := hcl k j hk hk1 hk2
            unfold with_
            rw [this]; rfl
        · intro t
          rw [hS', seen_with tidyT hcl hi' hSi]
          obtain ⟨_, hlt, hps⟩ := put_slot hp
          by_cases hW : Wt i t = true
          · rw [if_pos hW]
            have hdst := (hWt t ho).1 hW
            show dn m2 ((F (i + 1)).slot t) = _
            rw [hps t, if_pos hdst, hdv]
            have hl := hlt t hdst
            rw [hfn i (by omega), ← hsa] at hl
            unfold Act.put
            rw [hdst]
            simp [hl]
          · rw [if_neg hW]
            have hdst : o.dst ≠ some t := fun e => hW ((hWt t ho).2 e)
            rw [dn_mono hst.ext (htm t)]
            unfold Act.put
            cases hd : o.dst with
            | none => rfl
            | some d =>
              have hne : d ≠ t := fun e => hdst (by rw [hd, e])
              simp [Array.getD_eq_getD_getElem?, Array.getElem?_setIfInBounds_ne hne]
        · have hH : VH FP n0 hi (seen σh Wh (with_ S i) n) H = H2 := by
            funext id
            by_cases hW : Wh i id = true
            · obtain ⟨c1, c2⟩ := hcoup id hi' hW
              rw [VH_in c1 c2, seen_with tidyH hcl hi' hSi, if_pos hW]
              show (T (i + 1)).hp.get id = _
              rw [e2]
              have hlt : id < si.nx := by rw [← hsinx]; exact hnoW id hi' hW
              refine hinv2.cp id hlt ?_
              have hA := tidyH.sub i id hi' hW
              exact ((hAr id).1 hA).imp (fun h => h) (fun h => h.1)
            · have hW' : ¬ (si.wr.testBit id = true ∨ ((T i).nx ≤ id ∧ id < si.nx)) := fun e => hW ((hWr id).2 e)
              have hwb : si.wr.testBit id = false := by
                cases hb : si.wr.testBit id with
                | false => rfl
                | true => exact absurd (.inl hb) hW'
              have hk := hst.keep id (by
                have : ¬ ((T i).nx ≤ id ∧ id < si.nx) := fun e => hW' (.inr e)
                omega) hwb
              rw [hk]
              by_cases hcp : id < hi ∧ (FP id ∨ n0 ≤ id)
              · rw [VH_in hcp.1 hcp.2, VH_in hcp.1 hcp.2, seen_with tidyH hcl hi' hSi, if_neg hW]
              · rw [VH_out hcp, VH_out hcp]
          rw [hS', hH]
          exact hinv2.vw
        · intro k hk hk1 id h1 h2
          rw [hS''] at hk1
          have hki : k ≠ i := fun e => by rw [e, with_eq] at hk1; cases hk1
          rw [with_ne hki] at hk1
          rw [hst.only id ?_]
          · exact hfr k hk hk1 id h1 h2
          · by_cases hlt : k < i
            · have := hnx' (k + 1) i (by omega) (by omega)
              left; omega
            · have := hnx' (i + 1) k (by omega) (by omega)
              rw [hsinx] at this
              right; omega
        · intro id hid
          rw [hst.only id (by omega), honly id hid]
      have ho' : ops[i]? = some o := by simpa using ho
      unfold wpOp
      rw [ho']
      simp only
      rw [hwant]
      rcases hdid with ⟨hw, hstep⟩ | ⟨hw, rfl, rfl⟩
      · rw [if_pos hw]
        left
        exact evStep_wp hc hstep (FP := fun id => si.ac.testBit id = true) (n0 := (T i).nx) (hi := si.nx) ⟨Nat.le_refl _, fun id e _ => e⟩ hinv hx go
      · rw [hw]
        exact go undef w1 m1 _ rfl hinv (Ste.refl _ _ _ _ _)
  have hrep : ∀ k : Nat, (Array.replicate ops.size false).getD k true = true → n ≤ k := by
    intro k hk
    by_cases hlt : k < n
    · rw [Array.getD_eq_getD_getElem?] at hk
      simp [hnsz, hlt] at hk
    · omega
  have hnone : ∀ k, k < n → (fun k => (Array.replicate ops.size false).getD k true) k = true → False := fun k hk h => by
    have := hrep k h
    omega
  have hdr : Inv FP n0 hi B m s H w.drew := hv.heap rfl
  rw [show ({ w with drawn := w.drawn + 1 } : World) = w.drew from rfl]
  refine key ops.size (Array.replicate ops.size false) a m w.drew (by simp [hnsz]) (by rw [Array.toList_replicate, left_all]) (fun k j hk hk1 _ => (hnone k hk hk1).elim) ht.size ht.defers (fun t => ?_) ?_ (fun i hi' _ id h1 h2 => ?_) (Le.refl m) (fun _ _ => rfl) ((Below.refl B w).drew)
  · rw [seen_none (fun k hk h _ => hnone k hk h)]
    show dn m ((F 0).slot t) = _
    rw [f0]
    exact ht.at_ t
  · have hH : VH FP n0 hi (seen σh Wh (fun k => (Array.replicate ops.size false).getD k true) n) H = H := by
      funext id
      by_cases hcp : id < hi ∧ (FP id ∨ n0 ≤ id)
      · rw [VH_in hcp.1 hcp.2, seen_none (fun k hk h _ => hnone k hk h), hσ0]
        exact hv.cp id hcp.1 hcp.2
      · rw [VH_out hcp]
    rw [hH]
    exact hdr.vw
  · have g1 := hnx' 0 i (by omega) (by omega)
    have g2 := hnx' (i + 1) n (by omega) (Nat.le_refl _)
    exact (hv.fr id (by omega) (by omega)).1
end Go.Ev
