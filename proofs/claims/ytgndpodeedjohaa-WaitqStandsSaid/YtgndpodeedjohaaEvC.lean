/-
  An evaluator of closed runs, third part: operations on cells.
-/
import Derived.Test.YtgndpodeedjohaaEvB
import Derived.ChangeKeysEq
namespace Go.Ev
open Go.RowKit
set_option linter.unusedSimpArgs false
set_option linter.unnecessarySimpa false
set_option linter.unusedVariables false

/-- an operation goes as it was foretold -/
def Good (FP : Nat → Prop) (n0 hi B : Nat) (P : Program) (x : Sem Value) (v : Value) (m : Mu) (s : St) (H : Nat → Option RO) (w : World) (s' : St) : Prop :=
  ∃ v' w' m' H', x.run P w = .ok v' w' ∧ dn m' v = some v' ∧ Inv FP n0 hi B m' s' H' w' ∧ Ste B m s H w m' s' H' w'

def emp : Mu := fun _ => none
theorem emp_le (m : Mu) : Le emp m := fun _ _ h => by cases h
theorem dn0_emp {v v' : Value} (h : dn0 emp v = some v') : v' = v := by
  unfold dn0 at h
  split at h
  · cases h
  · cases h
  · cases h
  · cases h
  · cases h
  · cases h
  · cases h
  · cases h
  · cases h; rfl
theorem dnL_emp {f : Value → Option Value} (hf : ∀ v v', f v = some v' → v' = v) : ∀ {l l' : List Value}, dnL f l = some l' → l' = l
  | [], l', h => by simp [dnL] at h; exact h
  | v :: vs, l', h => by
    simp only [dnL] at h
    split at h
    · rename_i x xs h1 h2
      cases h
      rw [hf _ _ h1, dnL_emp hf h2]
    · cases h
theorem dn1_emp {v v' : Value} (h : dn1 emp v = some v') : v' = v := by
  unfold dn1 at h
  split at h
  · split at h
    · rename_i x y h1 h2
      cases h
      rw [dnL_emp (fun _ _ => dn0_emp) h1, dnL_emp (fun _ _ => dn0_emp) h2]
    · cases h
  · obtain ⟨p, hp, rfl⟩ := Option.map_eq_some_iff.1 h; rw [dn0_emp hp]
  · exact dn0_emp h
theorem dn2_emp {v v' : Value} (h : dn2 emp v = some v') : v' = v := by
  unfold dn2 at h
  split at h
  · obtain ⟨p, hp, rfl⟩ := Option.map_eq_some_iff.1 h; rw [dnL_emp (fun _ _ => dn1_emp) hp]
  · exact dn1_emp h
theorem dn_emp {v v' : Value} (h : dn emp v = some v') : v' = v := by
  unfold dn at h
  split at h
  · obtain ⟨p, hp, rfl⟩ := Option.map_eq_some_iff.1 h; rw [dnL_emp (fun _ _ => dn2_emp) hp]
  · exact dn2_emp h
/-- a value that names no block -/
def cl (v : Value) : Bool := (dn emp v).isSome
theorem cl_dn {v : Value} (h : cl v = true) (m : Mu) : dn m v = some v := by
  unfold cl at h
  obtain ⟨v', hv⟩ := Option.isSome_iff_exists.1 h
  have := dn_emp hv
  subst this
  exact dn_mono (emp_le m) hv
def cl2 (v : Value) : Bool := (dn2 emp v).isSome
theorem cl2_dn {v : Value} (h : cl2 v = true) (m : Mu) : dn2 m v = some v := by
  unfold cl2 at h
  obtain ⟨v', hv⟩ := Option.isSome_iff_exists.1 h
  have := dn2_emp hv
  subst this
  exact dn2_mono (emp_le m) hv
theorem cl_eq {v v' : Value} {m : Mu} (h : cl v = true) (k : dn m v = some v') : v' = v := by
  rw [cl_dn h m] at k; cases k; rfl

theorem dn_ptr {m : Mu} {a : Addr} {v' : Value} (h : dn m (.pointer (some a)) = some v') : ∃ p, m a.block = some p ∧ v' = .pointer (some ⟨p.1, a.off, a.spot⟩) := by
  obtain ⟨p, hp, rfl⟩ := Option.map_eq_some_iff.1 (show (m a.block).map _ = some v' from h)
  exact ⟨p, hp, rfl⟩
theorem dn_slice {m : Mu} {a : Addr} {n k : Nat} {v' : Value} (h : dn m (.slice (some a) n k) = some v') : ∃ p, m a.block = some p ∧ v' = .slice (some ⟨p.1, a.off, a.spot⟩) n (capOf p.2 k) := by
  obtain ⟨p, hp, rfl⟩ := Option.map_eq_some_iff.1 (show (m a.block).map _ = some v' from h)
  exact ⟨p, hp, rfl⟩
theorem dn_mapv {m : Mu} {r : Nat} {v' : Value} (h : dn m (.map (some r)) = some v') : ∃ p, m r = some p ∧ v' = .map (some p.1) := by
  obtain ⟨p, hp, rfl⟩ := Option.map_eq_some_iff.1 (show (m r).map _ = some v' from h)
  exact ⟨p, hp, rfl⟩
theorem mk_ptr {m : Mu} {a : Addr} {p : Nat × Nat} (h : m a.block = some p) : dn m (.pointer (some a)) = some (.pointer (some ⟨p.1, a.off, a.spot⟩)) := by
  show (m a.block).map _ = _
  rw [h]; rfl
theorem mk_slice {m : Mu} {a : Addr} {n k : Nat} {p : Nat × Nat} (h : m a.block = some p) : dn m (.slice (some a) n k) = some (.slice (some ⟨p.1, a.off, a.spot⟩) n (capOf p.2 k)) := by
  show (m a.block).map _ = _
  rw [h]; rfl
theorem dn2_of_cells {m : Mu} {v v' : Value} (h : dn m v = some v') (hn : ∀ vs, v ≠ .tuple vs) : dn2 m v = some v' := by
  unfold dn at h
  split at h
  · exact absurd rfl (hn _)
  · exact h
theorem add_none (b o j : Nat) : (⟨b, o, none⟩ : Addr).add j = ⟨b, o + j, none⟩ := by unfold Addr.add; split <;> simp_all

def rd (s : St) (a : Addr) (n : Nat) : Option (List Value × St) :=
  match a.spot with
  | some _ => none
  | none => match s.look a.block with
    | some (.cells cs _ _, s') => if Nat.ble (a.off + n) cs.length then some ((cs.drop a.off).take n, s') else none
    | _ => none
section
variable {FP : Nat → Prop} {n0 hi B : Nat} {m : Mu} {s s' : St} {H : Nat → Option RO} {w : World} {P : Program}
theorem rd_spec {a : Addr} {n : Nat} {l : List Value} (h : rd s a n = some (l, s')) (hf : Fits FP n0 hi s') (hv : Inv FP n0 hi B m s H w) :
    a.spot = none ∧ l.length = n ∧ Inv FP n0 hi B m s' H w ∧ Ste B m s H w m s' H w ∧ ∃ p l', m a.block = some p ∧ dnL (dn1 m) l = some l' ∧ ∀ j v', l'[j]? = some v' → w.cell? ((⟨p.1, a.off, none⟩ : Addr).add j) = some v' := by
  unfold rd at h
  split at h
  · cases h
  · rename_i hs
    split at h
    · rename_i cs e own s1 hl
      split at h
      · rename_i hle
        have hle : a.off + n ≤ cs.length := Nat.le_of_ble_eq_true hle
        obtain ⟨rfl, rfl⟩ := Prod.mk.inj (Option.some.inj h)
        obtain ⟨h1, _, h2, h3, _⟩ := look_spec hl hf hv
        obtain ⟨p, cur, cs', g1, g2, g3, g4, g5, g6⟩ := hv.vw.at_ _ _ h1
        have hlen := dnL_length g4
        refine ⟨hs, by simp; omega, h2, h3, p, (cs'.drop a.off).take n, g1, dnL_take (dnL_drop g4 _) _, fun j v' hj => ?_⟩
        rw [add_none, cell_of_row w p.1 (a.off + j) cur e (0, 0) g3]
        rw [List.getElem?_take] at hj
        split at hj
        · rename_i hjn
          rw [List.getElem?_drop] at hj
          rw [← g5, List.getElem?_take] at hj
          rw [if_pos (by rw [hlen]; omega)] at hj
          simpa using hj
        · cases hj
      · cases h
    · cases h

def aggD : TypeDesc → Bool
  | .struct _ | .array _ _ => true
  | _ => false
theorem run_isAgg {t : TypeId} {d : TypeDesc} (h : P.underlying t = some d) (w : World) : (isAgg t).run P w = .ok (aggD d) w := by
  simp only [isAgg, Sem.run_bind, run_underlying h, Result.andThen_ok]
  cases d <;> rfl
def evLoad (P : Program) (t : TypeId) (v : Value) (s : St) : Option (Value × St) :=
  match v, P.underlying t, P.info? t with
  | .pointer (some a), some d, some i =>
    if aggD d then (rd s a i.size).map fun x => (.agg x.1.toArray, x.2)
    else match rd s a 1 with
      | some ([x], s') => some (x, s')
      | _ => none
  | _, _, _ => none
theorem evLoad_same {t : TypeId} {v x v' : Value} (h : evLoad P t v s = some (x, s')) (hf : Fits FP n0 hi s') (hv : Inv FP n0 hi B m s H w) (hd : dn m v = some v') :
    ∃ y, (Instr.loadAt t v').run P w = .ok y w ∧ dn m x = some y ∧ Inv FP n0 hi B m s' H w ∧ Ste B m s H w m s' H w := by
  unfold evLoad at h
  split at h
  · rename_i a d i hu hi'
    obtain ⟨p, hp, rfl⟩ := dn_ptr hd
    split at h
    · rename_i hag
      obtain ⟨y, hy, he⟩ := Option.map_eq_some_iff.1 h
      obtain ⟨rfl, rfl⟩ := Prod.mk.inj he
      obtain ⟨h0, h1, h2, h3, p', l', g1, g2, g3⟩ := rd_spec (l := y.1) hy hf hv
      rw [hp] at g1; cases g1
      refine ⟨.agg l'.toArray, ?_, ?_, h2, h3⟩
      · have hl : i.size = l'.length := by rw [dnL_length g2, h1]
        have hc := run_loadCells_list (P := P) w ⟨p.1, a.off, none⟩ l' g3
        simp only [Instr.loadAt, Instr.sureAddr, loadVar, Sem.run_bind, Sem.run_pure, Result.andThen_ok, run_isAgg hu, hag, if_true, sizeOf, run_typeInfo _ hi', hl, h0, hc]
      · exact dn_of_dn2 (by simp [dn2, g2])
    · rename_i hag
      split at h
      · rename_i x1 s1 hr
        obtain ⟨rfl, rfl⟩ := Prod.mk.inj (Option.some.inj h)
        obtain ⟨h0, h1, h2, h3, p', l', g1, g2, g3⟩ := rd_spec hr hf hv
        rw [hp] at g1; cases g1
        obtain ⟨x', hx', hd'⟩ := dnL_at g2 (i := 0) (v := x1) rfl
        have hc := g3 0 x' hx'
        rw [add_none, Nat.add_zero] at hc
        refine ⟨x', ?_, dn_of_dn1 hd', h2, h3⟩
        have hag : aggD d = false := by simpa using hag
        simp only [Instr.loadAt, Instr.sureAddr, loadVar, Sem.run_bind, Sem.run_pure, Result.andThen_ok, run_isAgg hu, hag, Bool.false_eq_true, if_false, h0, run_load, hc]
      · cases h
  · cases h

theorem evLoad_spec {t : TypeId} {v x v' : Value} (h : evLoad P t v s = some (x, s')) (hf : Fits FP n0 hi s') (hv : Inv FP n0 hi B m s H w) (hd : dn m v = some v') :
    Good FP n0 hi B P (Instr.loadAt t v') x m s H w s' := by
  obtain ⟨y, h1, h2, h3, h4⟩ := evLoad_same h hf hv hd
  exact ⟨y, w, m, H, h1, h2, h3, h4⟩
theorem evLoad_ptr {t : TypeId} {v x : Value} (h : evLoad P t v s = some (x, s')) : ∃ a, v = .pointer (some a) := by
  unfold evLoad at h
  split at h
  · exact ⟨_, rfl⟩
  · cases h

def splice (l : List Value) (o : Nat) (v : List Value) : List Value := l.take o ++ v ++ l.drop (o + v.length)
theorem splice_length {l v : List Value} {o : Nat} (h : o + v.length ≤ l.length) : (splice l o v).length = l.length := by
  simp [splice]; omega
theorem splice_take {l v : List Value} {o n : Nat} (h : o + v.length ≤ n) (hn : n ≤ l.length) : (splice l o v).take n = splice (l.take n) o v := by
  unfold splice
  have e1 : (l.take n).take o = l.take o := by rw [List.take_take, Nat.min_eq_left (by omega)]
  rw [e1, List.take_append, List.take_of_length_le (by simp; omega), List.drop_take]
  congr 2
  simp
  omega
theorem dnL_splice {f : Value → Option Value} {l l' v v' : List Value} (h : dnL f l = some l') (k : dnL f v = some v') (o : Nat) : dnL f (splice l o v) = some (splice l' o v') := by
  unfold splice
  rw [show v'.length = v.length from dnL_length k]
  exact dnL_append (dnL_append (dnL_take h _) k) (dnL_drop h _)
theorem dnL_dn1_one {l l' : List Value} (h : dnL (dn1 m) l = some l') : ∀ u ∈ l', u.oneCell' = true := by
  intro u hu
  obtain ⟨i, hi⟩ := List.getElem?_of_mem hu
  obtain ⟨v, _, hv⟩ := dnL_at' h hi
  exact dn1_one hv
def evStore (P : Program) (t : TypeId) (a x : Value) (s : St) : Option (Value × St) :=
  match a, P.info? t with
  | .pointer (some a), some i =>
    match a.spot with
    | some _ => none
    | none => match x with
      | .tuple _ => none
      | _ => if Nat.beq x.cells.size i.size then match s.look a.block with
          | some (.cells cs e own, s1) => if Nat.ble (a.off + x.cells.size) cs.length then (s1.put a.block (.cells (splice cs a.off x.cells.toList) e own)).map fun s' => (undef, s') else none
          | _ => none
        else none
  | _, _ => none
theorem dn_undef (m : Mu) : dn m undef = some undef := rfl
/-- cells of a row are written -/
theorem write_spec {id o : Nat} {cs vs vs' : List Value} {e : TypeId} {own : Nat} {s1 : St} (hl : H id = some (.cells cs e own)) (hp : s1.put id (.cells (splice cs o vs) e own) = some s') (hv : Inv FP n0 hi B m s1 H w)
    (hle : o + vs.length ≤ cs.length) (hd : dnL (dn1 m) vs = some vs') {p : Nat × Nat} (hm : m id = some p) :
    ∃ w', (storeCells ⟨p.1, o, none⟩ vs').run P w = .ok () w' ∧ Inv FP n0 hi B m s' (upd H id (some (.cells (splice cs o vs) e own))) w' ∧ Ste B m s1 H w m s' (upd H id (some (.cells (splice cs o vs) e own))) w' := by
  obtain ⟨p', cur, cs', g1, g2, g3, g4, g5, g6, g7⟩ := hv.vw.at_ _ _ hl
  rw [hm] at g1; cases g1
  have hlen := dnL_length g4
  have hlv := dnL_length hd
  have hcur : cs'.length ≤ cur.size := by
    have := congrArg List.length g5
    simp at this; omega
  have hst := run_storeCells_at P p.1 o e vs' 0 cur w g3 (by omega) (dnL_dn1_one hd)
  simp only [Nat.add_zero] at hst
  have hnew := setRow_heap w p.1 cur (cur.toList.take o ++ vs' ++ cur.toList.drop (o + vs'.length)).toArray e (0, 0) g3
  have hsz : (splice cur.toList o vs').length = cur.size := by rw [splice_length (by simp; omega)]; simp
  have ht : (splice cur.toList o vs').take (splice cs' o vs').length = splice cs' o vs' := by
    rw [splice_length (by omega), splice_take (by omega) (by simpa using hcur), g5]
  refine ⟨_, hst, put_spec hp hv hl rfl hm (fun k hk => setRow_other w p.1 k _ hk) rfl rfl rfl (setRow_size _ _ _) ⟨p, _, splice cs' o vs', hm, g2, hnew, dnL_splice g4 hd o, ?_, ?_, ?_⟩⟩
  · simpa [splice] using ht
  · intro h0
    have := g6 h0
    rw [splice_length (by omega), ← this, ← hsz]
    simp [splice]
  · intro h0
    obtain ⟨k1, k2⟩ := g7 h0
    refine ⟨?_, k2⟩
    rw [← k1, ← hsz]
    simp [splice]
theorem evStore_spec {t : TypeId} {a x v a' x' : Value} (h : evStore P t a x s = some (v, s')) (hf : Fits FP n0 hi s') (hv : Inv FP n0 hi B m s H w) (ha : dn m a = some a') (hx : dn m x = some x') :
    v = undef ∧ ∃ w' H', (Instr.storeAt t a' x').run P w = .ok () w' ∧ Inv FP n0 hi B m s' H' w' ∧ Ste B m s H w m s' H' w' := by
  unfold evStore at h
  split at h
  · rename_i ad i hi'
    obtain ⟨p, hp, rfl⟩ := dn_ptr ha
    split at h
    · cases h
    · rename_i hs
      split at h
      · cases h
      · rename_i hnt
        split at h
        · rename_i hsz
          split at h
          · rename_i cs e own s1 hl
            split at h
            · rename_i hle
              obtain ⟨s2, hs2, he⟩ := Option.map_eq_some_iff.1 h
              obtain ⟨rfl, rfl⟩ := Prod.mk.inj he
              have hle : ad.off + x.cells.size ≤ cs.length := Nat.le_of_ble_eq_true hle
              have hsz : x.cells.size = i.size := Nat.eq_of_beq_eq_true hsz
              have hx2 := dn2_cells (dn2_of_cells hx (fun vs e => hnt vs e))
              have hx3 := dnL_length hx2
              simp only [Array.length_toList] at hx3
              have hf1 : Fits FP n0 hi s1 := by
                unfold St.put at hs2
                split at hs2
                · cases hs2
                  refine ⟨hf.1, fun i e hi => hf.2 i ?_ hi⟩
                  show (s1.ac ||| _).testBit i = true
                  rw [bit_or, e]; rfl
                · cases hs2
              obtain ⟨h1, _, h2, h3, _⟩ := look_spec hl hf1 hv
              obtain ⟨w', r1, r2, r3⟩ := write_spec (P := P) (vs' := x'.cells.toList) h1 hs2 h2 (by simpa using hle) hx2 hp
              refine ⟨rfl, w', _, ?_, r2, h3.trans r3⟩
              simp only [Instr.storeAt, Instr.sureAddr, storeVar, Sem.run_bind, Sem.run_pure, Result.andThen_ok, sizeOf, run_typeInfo _ hi', hx3, hsz, ne_eq, not_true_eq_false, if_false, hs, r1]
            · cases h
          · cases h
        · cases h
  · cases h
end
end Go.Ev
