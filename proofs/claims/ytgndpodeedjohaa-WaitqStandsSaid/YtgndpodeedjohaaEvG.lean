/-
  An evaluator of closed runs, seventh part: append, copy, len.
-/
import Derived.Test.YtgndpodeedjohaaEvF
namespace Go.Ev
open Go.RowKit
set_option linter.unusedSimpArgs false
set_option linter.unnecessarySimpa false
set_option linter.unusedVariables false

section
variable {FP : Nat → Prop} {n0 hi B : Nat} {m : Mu} {s s' : St} {H : Nat → Option RO} {w : World} {P : Program}

def few : Nat := 16777216
theorem capOf_unk (c : Nat) : capOf c unk = c := by simp [capOf]
def ownOk (own n c l z : Nat) : Bool := if Nat.beq own 0 then Nat.blt c unk && Nat.beq l (c * z) && Nat.ble n c else Nat.beq own z && Nat.beq c unk && Nat.beq l (n * z)
def evAppend (P : Program) (t : TypeId) (x y : Value) (s : St) : Option (Value × St) :=
  match P.underlying t, y with
  | some (.slice e), .slice (some b) k _ => match P.info? e with
    | some i => match i.zero with
      | some z => if Nat.beq z.cells.size i.size && Nat.blt 0 i.size && Nat.blt 0 k then
          match rd s b (k * i.size) with
          | some (news, s1) => match x with
            | .slice none n c => if Nat.beq n 0 && Nat.beq c 0 && Nat.ble k few && Nat.ble (k * i.bytes) 140737488355328 then (s1.new (.cells news e i.size)).map fun s' => (.slice (some ⟨s1.nx, 0, none⟩) k unk, s') else none
            | .slice (some a) n c => match a.spot with
              | some _ => none
              | none => match s1.look a.block with
                | some (.cells cs e' own, s2) => if Nat.beq a.off 0 && Nat.beq e' e && Nat.ble (n + k) few && Nat.ble ((n + k) * i.bytes) 140737488355328 &&
                      ownOk own n c cs.length i.size then
                    match s2.put a.block .dead with
                    | some s3 => (s3.new (.cells (cs.take (n * i.size) ++ news) e i.size)).map fun s' => (.slice (some ⟨s3.nx, 0, none⟩) (n + k) unk, s')
                    | none => none
                  else none
                | _ => none
            | _ => none
          | none => none
        else none
      | none => none
    | none => none
  | _, _ => none
theorem put_fits {id : Nat} {ro : RO} {s1 : St} (h : s.put id ro = some s1) (hf : Fits FP n0 hi s1) : Fits FP n0 hi s := by
  unfold St.put at h
  split at h
  · cases h
    refine ⟨hf.1, fun i e hi => hf.2 i ?_ hi⟩
    show (s.ac ||| _).testBit i = true
    rw [bit_or, e]; rfl
  · cases h
theorem new_fits {ro : RO} {s1 : St} (h : s.new ro = some s1) (hf : Fits FP n0 hi s1) : Fits FP n0 hi s := by
  unfold St.new at h
  split at h
  · cases h
    exact ⟨Nat.le_trans (Nat.le_succ _) hf.1, hf.2⟩
  · cases h
theorem look_fits {id : Nat} {ro : RO} {s1 : St} (h : s.look id = some (ro, s1)) (hf : Fits FP n0 hi s1) : Fits FP n0 hi s := by
  unfold St.look at h
  split at h
  · obtain ⟨o, ho, he⟩ := Option.map_eq_some_iff.1 h
    obtain ⟨rfl, rfl⟩ := Prod.mk.inj he
    refine ⟨hf.1, fun i e hi => hf.2 i ?_ hi⟩
    show (s.ac ||| _).testBit i = true
    rw [bit_or, e]; rfl
  · cases h
theorem evAppend_spec {t ty : TypeId} {x y x' y' v : Value} (h : evAppend P t x y s = some (v, s')) (hf : Fits FP n0 hi s') (hv : Inv FP n0 hi B m s H w) (hx : dn m x = some x') (hy : dn m y = some y') :
    Good FP n0 hi B P (Builtin.append_ #[t, t] ty #[x', y']) v m s H w s' := by
  unfold evAppend at h
  split at h
  · rename_i e b k kc hu
    obtain ⟨q, hq, rfl⟩ := dn_slice hy
    split at h
    · rename_i i hi'
      split at h
      · rename_i z hz
        split at h
        · rename_i hc
          simp only [Bool.and_eq_true, Nat.beq_eq, blt_iff] at hc
          obtain ⟨⟨hzs, hsz⟩, hk⟩ := hc
          split at h
          · rename_i news s1 hr
            split at h
            · rename_i n c
              cases hx
              split at h
              · rename_i hb
                simp only [Bool.and_eq_true, Nat.beq_eq, Nat.ble_eq] at hb
                obtain ⟨⟨⟨rfl, rfl⟩, hkf⟩, hby⟩ := hb
                obtain ⟨s2, hs2, he⟩ := Option.map_eq_some_iff.1 h
                obtain ⟨rfl, rfl⟩ := Prod.mk.inj he
                obtain ⟨hsp, hl, hv1, st1, q', l', hq', hd, hcell⟩ := rd_spec hr (new_fits hs2 hf) hv
                rw [hq] at hq'; cases hq'
                have hl' : l'.length = k * i.size := by rw [dnL_length hd, hl]
                unfold few at hkf
                have hrun := run_append_nil (P := P) w t ty e i z hu hi' hz ⟨q.1, b.off, none⟩ k (capOf q.2 kc) l' hl' hcell hk (by omega) (by omega)
                have hv2 : Inv FP n0 hi B m s1 H w.drew := hv1.heap rfl
                have hn0 := (hv2.fr s1.nx (Nat.le_refl _) (by
                  have := hf.1
                  unfold St.new at hs2; split at hs2
                  · cases hs2; exact this
                  · cases hs2)).1
                have hle : Le m (upd m s1.nx (some (w.heap.size, grownCap w k 0 e))) := fun j p hj => by
                  by_cases ej : j = s1.nx
                  · subst ej; rw [hn0] at hj; cases hj
                  · rw [upd_ne _ _ ej]; exact hj
                obtain ⟨g1, g2⟩ := new_spec hs2 hf.1 hv2 (grownCap w k 0 e) (.cells (l'.toArray ++ Builtin.zeroCells z.cells (grownCap w k 0 e - k)) e)
                  ⟨_, l'.toArray ++ Builtin.zeroCells z.cells (grownCap w k 0 e - k), l', upd_same _ _ _, hv.base, heap_alloc_new w.drew _, dnL_mono (fun _ _ => dn1_mono hle) hd, by simp, fun h0 => absurd h0 (by omega), fun _ => ⟨by
                    have := grownCap_ge w k 0 e
                    simp only [Array.size_append, List.size_toArray, size_zeroCells, hzs, hl', ← Nat.add_mul]
                    congr 1
                    show k + (grownCap w k 0 e - k) = grownCap w k 0 e
                    omega, grownCap_le_maxLen w k 0 e (by simp only [maxLen]; omega)⟩⟩
                refine ⟨_, _, _, _, ?_, mk_slice (upd_same _ _ _), g1, (st1.trans (Ste.heap (w' := w.drew) rfl rfl rfl rfl)).trans g2⟩
                rw [hsp, hrun, capOf_unk]
                rfl
              · cases h
            · rename_i a n c
              obtain ⟨p, hp, rfl⟩ := dn_slice hx
              split at h
              · cases h
              · rename_i hasp
                split at h
                · rename_i cs e' own s2 hlk
                  split at h
                  · rename_i hb
                    simp only [Bool.and_eq_true, Nat.beq_eq, Nat.ble_eq] at hb
                    obtain ⟨⟨⟨⟨hoff, rfl⟩, hkf⟩, hby⟩, hkind⟩ := hb
                    split at h
                    · rename_i s3 hs3
                      obtain ⟨s4, hs4, he⟩ := Option.map_eq_some_iff.1 h
                      obtain ⟨rfl, rfl⟩ := Prod.mk.inj he
                      have hf3 := new_fits hs4 hf
                      have hf2 := put_fits hs3 hf3
                      have hf1 := look_fits hlk hf2
                      obtain ⟨hsp, hl, hv1, st1, q', l', hq', hd, hcell⟩ := rd_spec hr hf1 hv
                      rw [hq] at hq'; cases hq'
                      obtain ⟨hH, hlt, hv2, st2, _, _⟩ := look_spec hlk hf2 hv1
                      obtain ⟨p', cur, cs', hp', hBp, hcur, hcs, htk, hex, hown⟩ := hv1.vw.at_ _ _ hH
                      rw [hp] at hp'; cases hp'
                      have hl' : l'.length = k * i.size := by rw [dnL_length hd, hl]
                      have hlc := dnL_length hcs
                      have hcur' : cs'.length ≤ cur.size := by
                        have := congrArg List.length htk
                        simp at this; omega
                      unfold few at hkf
                      have hfacts : n * i.size ≤ cs'.length ∧ cur.size = capOf p.2 c * i.size ∧ n ≤ capOf p.2 c ∧ capOf p.2 c ≤ maxLen := by
                        unfold ownOk at hkind
                        split at hkind
                        · rename_i h0
                          have h0 : own = 0 := Nat.eq_of_beq_eq_true h0
                          simp only [Bool.and_eq_true, Nat.beq_eq, Nat.ble_eq, blt_iff] at hkind
                          obtain ⟨⟨k1, k2⟩, k3⟩ := hkind
                          rw [capOf_lt k1]
                          refine ⟨?_, by rw [hex h0, hlc, k2], k3, by unfold unk at k1; simp only [maxLen]; omega⟩
                          rw [hlc, k2]; exact Nat.mul_le_mul_right _ k3
                        · simp only [Bool.and_eq_true, Nat.beq_eq] at hkind
                          obtain ⟨⟨k1, k2⟩, k3⟩ := hkind
                          subst k1
                          subst k2
                          rw [capOf_unk]
                          obtain ⟨k4, k5⟩ := hown (by omega)
                          refine ⟨by omega, k4, ?_, k5⟩
                          have : n * i.size ≤ p.2 * i.size := by omega
                          exact Nat.le_of_mul_le_mul_right this hsz
                      obtain ⟨f1, f2, f3, f4⟩ := hfacts
                      have hd2 : dnL (dn1 m) (cs.take (n * i.size) ++ news) = some (cs'.take (n * i.size) ++ l') := dnL_append (dnL_take hcs _) hd
                      have hlen2 : (cs'.take (n * i.size) ++ l').length = (n + k) * i.size := by
                        rw [List.length_append, List.length_take, Nat.min_eq_left f1, hl', Nat.add_mul]
                      have htk2 : cur.toList.take (n * i.size) = cs'.take (n * i.size) := by
                        rw [← htk, List.take_take, Nat.min_eq_left f1]
                      by_cases hroom : n + k ≤ capOf p.2 c
                      · have hfit : n * i.size + l'.length ≤ cur.size := by
                          rw [hl', f2, ← Nat.add_mul]; exact Nat.mul_le_mul_right _ hroom
                        have hrun := run_append_room (P := P) w t ty e' i hu hi' p.1 n (capOf p.2 c) cur hcur ⟨q.1, b.off, none⟩ k (capOf q.2 kc) l' hl' hcell (dnL_dn1_one hd) hroom hfit
                        have hn0 := (hv2.fr s3.nx (by
                          have : s3.nx = s2.nx := by
                            unfold St.put at hs3; split at hs3
                            · cases hs3; rfl
                            · cases hs3
                          omega) (by
                          have := hf.1
                          unfold St.new at hs4; split at hs4
                          · cases hs4; exact this
                          · cases hs4)).1
                        have hle : Le m (upd m s3.nx (some (p.1, capOf p.2 c))) := fun j r hj => by
                          by_cases ej : j = s3.nx
                          · subst ej; rw [hn0] at hj; cases hj
                          · rw [upd_ne _ _ ej]; exact hj
                        have hnew := setRow_heap w p.1 cur (cur.toList.take (n * i.size) ++ l' ++ cur.toList.drop (n * i.size + l'.length)).toArray e' (0, 0) hcur
                        obtain ⟨m', H', g0, g1, g2⟩ := move_spec hs3 hs4 hf.1 hv2 hH rfl hp (w' := w.setRow p.1 (cur.toList.take (n * i.size) ++ l' ++ cur.toList.drop (n * i.size + l'.length)).toArray)
                          (fun j hj => setRow_other w p.1 j _ hj) rfl rfl rfl (setRow_size _ _ _) (capOf p.2 c)
                          ⟨_, _, cs'.take (n * i.size) ++ l', upd_same _ _ _, hBp, hnew, dnL_mono (fun _ _ => dn1_mono hle) hd2, by
                            rw [htk2]
                            simp only
                            rw [List.take_append_of_le_length (Nat.le_refl _), List.take_of_length_le (Nat.le_refl _)], fun h0 => absurd h0 (by omega), fun _ => ⟨by
                            simp only [List.size_toArray, List.length_append, List.length_take, List.length_drop, Array.length_toList]
                            omega, f4⟩⟩
                        refine ⟨_, _, m', H', ?_, mk_slice g0, g1, (st1.trans st2).trans g2⟩
                        rw [hsp, hasp, hoff, hrun, capOf_unk]
                      · have holds : ∀ j u, (cs'.take (n * i.size))[j]? = some u → w.cell? ((⟨p.1, 0, none⟩ : Addr).add j) = some u := by
                          intro j u hj
                          rw [add_none, Nat.zero_add, cell_of_row w p.1 j cur e' (0, 0) hcur]
                          rw [← htk2, List.getElem?_take] at hj
                          split at hj
                          · simpa using hj
                          · cases hj
                        have hrun := run_append_grow (P := P) w t ty e' i z hu hi' hz ⟨p.1, 0, none⟩ n (capOf p.2 c) (cs'.take (n * i.size)) (by rw [List.length_take, Nat.min_eq_left f1]) holds ⟨q.1, b.off, none⟩ k (capOf q.2 kc) l' hl' hcell (by omega) (by omega) (growslice_fits (by omega) hby)
                        obtain ⟨hv3, st3⟩ := put_spec hs3 hv2 hH rfl hp (w' := w.drew) (fun j hj => rfl) rfl rfl rfl rfl (ro := .dead) trivial
                        have hn0 := (hv3.fr s3.nx (Nat.le_refl _) (by
                          have := hf.1
                          unfold St.new at hs4; split at hs4
                          · cases hs4; exact this
                          · cases hs4)).1
                        have hle : Le m (upd m s3.nx (some (w.heap.size, grownCap w (n + k) (capOf p.2 c) e'))) := fun j r hj => by
                          by_cases ej : j = s3.nx
                          · subst ej; rw [hn0] at hj; cases hj
                          · rw [upd_ne _ _ ej]; exact hj
                        obtain ⟨g1, g2⟩ := new_spec hs4 hf.1 hv3 (grownCap w (n + k) (capOf p.2 c) e') (.cells ((cs'.take (n * i.size)).toArray ++ l'.toArray ++ Builtin.zeroCells z.cells (grownCap w (n + k) (capOf p.2 c) e' - (n + k))) e')
                          ⟨_, _, cs'.take (n * i.size) ++ l', upd_same _ _ _, hv.base, heap_alloc_new w.drew _, dnL_mono (fun _ _ => dn1_mono hle) hd2, by
                            simp only [Array.toList_append]
                            exact List.take_left, fun h0 => absurd h0 (by omega), fun _ => ⟨by
                            have := grownCap_ge w (n + k) (capOf p.2 c) e'
                            have e1 : (cs'.take (n * i.size)).length = n * i.size := by rw [List.length_take, Nat.min_eq_left f1]
                            simp only [Array.size_append, List.size_toArray, size_zeroCells, hzs, hl', e1, ← Nat.add_mul]
                            congr 1
                            show n + k + (grownCap w (n + k) (capOf p.2 c) e' - (n + k)) = grownCap w (n + k) (capOf p.2 c) e'
                            omega, grownCap_le_maxLen w (n + k) _ e' (by simp only [maxLen]; omega)⟩⟩
                        refine ⟨_, _, _, _, ?_, mk_slice (upd_same _ _ _), g1, ((st1.trans st2).trans st3).trans g2⟩
                        rw [hsp, hasp, hoff, hrun, capOf_unk]
                        rfl
                    · cases h
                  · cases h
                · cases h
            · cases h
          · cases h
        · cases h
      · cases h
    · cases h
  · cases h
def evLen (P : Program) (t : TypeId) (x : Value) (s : St) : Option (Value × St) :=
  match P.underlying t, x with
  | some (.slice _), .slice _ n _ => some (.int .i64 n, s)
  | some (.map _ _), .map (some r) => match s.look r with
    | some (.map es _, s') => some (.int .i64 es.length, s')
    | _ => none
  | _, _ => none
theorem evLen_spec {t ty : TypeId} {x x' v : Value} (h : evLen P t x s = some (v, s')) (hf : Fits FP n0 hi s') (hv : Inv FP n0 hi B m s H w) (hx : dn m x = some x') : Good FP n0 hi B P (Builtin.len_ #[t] ty #[x']) v m s H w s' := by
  unfold evLen at h
  split at h
  · rename_i e a n c hu
    cases h
    have : ∃ a' c', x' = .slice a' n c' := by
      cases a with
      | none => cases hx; exact ⟨_, _, rfl⟩
      | some a => obtain ⟨p, _, rfl⟩ := dn_slice hx; exact ⟨_, _, rfl⟩
    obtain ⟨a', c', rfl⟩ := this
    refine Good.same (v' := .int .i64 n) ?_ rfl hv
    simp [Builtin.len_, run_underlying hu, goInt]
  · rename_i k e r hu
    obtain ⟨p, hp, rfl⟩ := dn_mapv hx
    split at h
    · rename_i es clock s1 hl
      cases h
      obtain ⟨hH, _, hv1, st1, _⟩ := look_spec hl hf hv
      obtain ⟨p', es', hp', _, hh, he⟩ := hv.vw.at_ _ _ hH
      rw [hp] at hp'; cases hp'
      refine ⟨.int .i64 es.length, w, m, H, ?_, rfl, hv1, st1⟩
      have hsz : es.length = es'.size := by simpa using congrArg List.length he
      have hg : (getObj p.1).run P w = .ok (.map es' clock) w := by simp [getObj, Sem.run, hh]
      simp [Builtin.len_, run_underlying hu, goInt, hg, hsz]
    · cases h
  · cases h
/-- copy of one row's cells into another's -/
def evCopy (P : Program) (t : TypeId) (x y : Value) (s : St) : Option (Value × St) :=
  match P.underlying t, x, y with
  | some (.slice e), .slice (some a) dn _, .slice (some b) sn _ => match P.info? e, a.spot with
    | some i, none => match rd s b (Nat.min sn dn * i.size) with
      | some (l, s1) => match s1.look a.block with
        | some (.cells cs e' own, s2) => if Nat.ble (a.off + l.length) cs.length then (s2.put a.block (.cells (splice cs a.off l) e' own)).map fun s' => (.int .i64 (Nat.min sn dn : Nat), s') else none
        | _ => none
      | none => none
    | _, _ => none
  | _, _, _ => none
theorem evCopy_spec {t u ty : TypeId} {x y x' y' v : Value} (h : evCopy P t x y s = some (v, s')) (hf : Fits FP n0 hi s') (hv : Inv FP n0 hi B m s H w) (hx : dn m x = some x') (hy : dn m y = some y') :
    Good FP n0 hi B P (Builtin.copy_ #[t, u] ty #[x', y']) v m s H w s' := by
  unfold evCopy at h
  split at h
  · rename_i e a dn' c b sn c2 hu
    obtain ⟨p, hp, rfl⟩ := dn_slice hx
    obtain ⟨q, hq, rfl⟩ := dn_slice hy
    split at h
    · rename_i i hi' hasp
      split at h
      · rename_i l s1 hr
        split at h
        · rename_i cs e' own s2 hlk
          split at h
          · rename_i hle
            obtain ⟨s3, hs3, he⟩ := Option.map_eq_some_iff.1 h
            obtain ⟨rfl, rfl⟩ := Prod.mk.inj he
            have hle : a.off + l.length ≤ cs.length := Nat.le_of_ble_eq_true hle
            have hf2 := put_fits hs3 hf
            obtain ⟨hsp, hl, hv1, st1, q', l', hq', hd, hcell⟩ := rd_spec hr (look_fits hlk hf2) hv
            rw [hq] at hq'; cases hq'
            obtain ⟨hH, hlt, hv2, st2, _, _⟩ := look_spec hlk hf2 hv1
            obtain ⟨w', r1, r2, r3⟩ := write_spec (P := P) (vs' := l') hH hs3 hv2 hle hd hp
            refine ⟨.int .i64 (Nat.min sn dn' : Nat), w', m, _, ?_, rfl, r2, (st1.trans st2).trans r3⟩
            have hl' : l'.length = Nat.min sn dn' * i.size := by rw [dnL_length hd, hl]
            have hc := run_loadCells_list (P := P) w ⟨q.1, b.off, none⟩ l' hcell
            rw [hl'] at hc
            simp [Builtin.copy_, run_underlying hu, Builtin.lenOf, Builtin.firstCells, sizeOf, run_typeInfo _ hi', hsp, hasp, hc, r1, goInt]
          · cases h
        · cases h
      · cases h
    · cases h
  · cases h
end
end Go.Ev
