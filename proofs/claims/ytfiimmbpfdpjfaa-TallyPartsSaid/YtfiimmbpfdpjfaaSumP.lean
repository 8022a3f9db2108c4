/-
  Numbers that come together, in plain Lean.
-/
import Derived.Test.YtfiimmbpfdpjfaaSumI
import Derived.Test.YtfiimmbpfdpjfaaFair
namespace Go.Proofs.Ytfiimmbpfdpjfaa
open Go.RowKit
set_option linter.unusedSimpArgs false

/-- one of a plain run -/
structure On where
  fn : ByteArray
  raw : Int
  fin : Bool
/-- what a number is made into -/
def kp (z : Int) : Nat := ((if z < 0 then -(z + 1) else z).tmod 1000001).toNat
theorem kp_le (z : Int) : kp z ≤ 1000000 := by
  unfold kp
  have h0 : 0 ≤ (if z < 0 then -(z + 1) else z) := by split <;> omega
  generalize (if z < 0 then -(z + 1) else z) = y at *
  rw [Int.tmod_eq_emod_of_nonneg h0]
  omega
theorem kp_cast (z : Int) : ((kp z : Nat) : Int) = (if z < 0 then -(z + 1) else z).tmod 1000001 := by
  unfold kp
  have h0 : 0 ≤ (if z < 0 then -(z + 1) else z) := by split <;> omega
  generalize (if z < 0 then -(z + 1) else z) = y at *
  rw [Int.tmod_eq_emod_of_nonneg h0]
  omega
def On.st (o : On) : St := ⟨0, o.fn, (kp o.raw : Nat), 0, 0, 0, o.fin⟩
theorem float_W (k : Nat) : floatOfInt .f64 (k : Int) = Fl.W k := by
  show Fl.F.nearest (decide ((k : Int) < 0)) (k : Int).natAbs 0 = Fl.F.nearest false k 0
  rw [decide_eq_false (by omega), Int.natAbs_natCast]
/-- few, each with few beats -/
structure Gd (ss : List St) : Prop where
  few : ss.length ≤ 1000
  be : ∀ s ∈ ss, ∃ k : Nat, s.be = k ∧ k ≤ 1000000
def bk (s : St) : Nat := s.be.toNat
def one_ (_ : St) : Nat := 1
def finB (s : St) : Nat := if s.fin = true then 1 else 0
def tot (g : St → Nat) (ss : List St) : Nat := sumL (ss.map g)
theorem tot_cons (g : St → Nat) (s : St) (ss : List St) : tot g (s :: ss) = g s + tot g ss := rfl
theorem tot_append (g : St → Nat) (a b : List St) : tot g (a ++ b) = tot g a + tot g b := by unfold tot; rw [List.map_append, sumL_append]
theorem tot_one (ss : List St) : tot one_ ss = ss.length := by
  induction ss with
  | nil => rfl
  | cons s ss ih => rw [tot_cons, ih, List.length_cons]; show 1 + _ = _; omega
theorem tot_fin (ss : List St) : tot finB ss = finK ss := by
  induction ss with
  | nil => rfl
  | cons s ss ih => rw [tot_cons, ih]; rfl
theorem Gd.sub {ss : List St} (h : Gd ss) (nm : ByteArray) : Gd (named nm ss) :=
  ⟨Nat.le_trans (named_len _ _) h.few, fun s hs => h.be s (List.mem_filter.1 hs).1⟩
theorem Gd.tot {ss : List St} (h : Gd ss) : tot bk ss ≤ 1000000000 := by
  have h1 : ∀ k ∈ ss.map bk, k ≤ 1000000 := by
    intro k hk
    obtain ⟨s, hs, rfl⟩ := List.mem_map.1 hk
    obtain ⟨k, e, hk⟩ := h.be s hs
    unfold bk; rw [e]; omega
  have h2 := sumL_le _ _ h1
  have h3 := h.few
  rw [List.length_map] at h2
  unfold Go.Proofs.Ytfiimmbpfdpjfaa.tot
  have : ss.length * 1000000 ≤ 1000 * 1000000 := Nat.mul_le_mul_right _ h3
  omega
theorem sumV_tot {ss : List St} (h : Gd ss) : sumV (valuesV ss 1) = Fl.W (tot bk ss) := by
  have h1 : ∀ k ∈ ss.map bk, k ≤ 1000000 := by
    intro k hk
    obtain ⟨s, hs, rfl⟩ := List.mem_map.1 hk
    obtain ⟨k, e, hk⟩ := h.be s hs
    unfold bk; rw [e]; omega
  have e1 : (valuesV ss 1).map nz = (ss.map bk).map fun k => some (Fl.W k) := by
    unfold valuesV
    rw [List.map_map, List.map_map]
    apply List.map_congr_left
    intro s hs
    obtain ⟨k, e, hk⟩ := h.be s hs
    show nz (valueV s 1) = some (Fl.W (bk s))
    have : valueV s 1 = Fl.W (bk s) := by
      unfold valueV bk
      rw [if_pos rfl, e, float_W]; rfl
    rw [this]
    exact nz_W (by have := h1 (bk s) (List.mem_map_of_mem hs); omega)
  have ht := h.tot
  unfold sumV
  rw [e1, sumN_W _ (by unfold Go.Proofs.Ytfiimmbpfdpjfaa.tot at ht; omega) (fun k hk => by have := h1 k hk; omega)]
  rfl
/-- each stands in one part -/
theorem sumL_hit {x : ByteArray} (a : Nat) (f : ByteArray → Nat) : ∀ {ns : List ByteArray}, ns.Nodup → x ∈ ns → sumL (ns.map fun nm => (if x = nm then a else 0) + f nm) = a + sumL (ns.map f)
  | [], _, h => by cases h
  | n :: ns, hn, h => by
    rw [List.nodup_cons] at hn
    simp only [List.map_cons, sumL]
    rcases List.mem_cons.1 h with e | e
    · subst e
      rw [if_pos rfl]
      have : ns.map (fun nm => (if x = nm then a else 0) + f nm) = ns.map f := List.map_congr_left fun y hy => by
        rw [if_neg (fun e : x = y => hn.1 (e ▸ hy)), Nat.zero_add]
      rw [this]; omega
    · rw [if_neg (fun e2 : x = n => hn.1 (e2 ▸ e)), sumL_hit a f hn.2 e]; omega
theorem named_cons (nm : ByteArray) (s : St) (ss : List St) : named nm (s :: ss) = if s.fn = nm then s :: named nm ss else named nm ss := by
  unfold named
  rw [List.filter_cons]
  by_cases e : s.fn = nm <;> simp [e]
theorem sumL_zeros : ∀ ns : List ByteArray, sumL (ns.map fun _ => 0) = 0
  | [] => rfl
  | n :: ns => by simp only [List.map_cons, sumL, sumL_zeros ns]
theorem tot_parts (g : St → Nat) {ns : List ByteArray} (hn : ns.Nodup) : ∀ {ss : List St}, (∀ s ∈ ss, s.fn ∈ ns) → sumL (ns.map fun nm => tot g (named nm ss)) = tot g ss
  | [], _ => by
    show sumL (ns.map fun _ => 0) = 0
    exact sumL_zeros ns
  | s :: ss, h => by
    have e : (fun nm => tot g (named nm (s :: ss))) = fun nm => (if s.fn = nm then g s else 0) + tot g (named nm ss) := by
      funext nm
      rw [named_cons]
      by_cases e : s.fn = nm
      · rw [if_pos e, if_pos e]; rfl
      · rw [if_neg e, if_neg e, Nat.zero_add]
    rw [e, sumL_hit (g s) _ hn (h s (by simp)), tot_parts g hn (fun t ht => h t (by simp [ht]))]
    rfl
theorem Names.nodup {ss : List St} {ns : List ByteArray} (h : Names ss ns) : ns.Nodup := h.up.imp fun {a b} hab e => by
  subst e
  rw [ltS_ord.irr] at hab
  cases hab
theorem Names.parts {ss : List St} {ns : List ByteArray} (h : Names ss ns) (g : St → Nat) : sumL (ns.map fun nm => tot g (named nm ss)) = tot g ss :=
  tot_parts g h.nodup fun s hs => (h.mem _).2 ⟨s, hs, rfl⟩
/-- the first parts -/
def pre (g : St → Nat) (ss : List St) (ns : List ByteArray) (i : Nat) : Nat := sumL ((ns.map fun nm => tot g (named nm ss)).take i)
theorem pre_next (g : St → Nat) {ss : List St} {ns : List ByteArray} {i : Nat} {nm : ByteArray} (h : ns[i]? = some nm) : pre g ss ns (i + 1) = pre g ss ns i + tot g (named nm ss) := by
  unfold pre
  rw [List.take_add_one, sumL_append, List.getElem?_map, h]
  simp [sumL]
theorem pre_le (g : St → Nat) {ss : List St} {ns : List ByteArray} (h : Names ss ns) (i : Nat) : pre g ss ns i ≤ tot g ss := by
  rw [← h.parts g]
  exact sumL_take _ _
theorem pre_all (g : St → Nat) {ss : List St} {ns : List ByteArray} (h : Names ss ns) {i : Nat} (hi : ns.length ≤ i) : pre g ss ns i = tot g ss := by
  unfold pre
  rw [List.take_of_length_le (by rw [List.length_map]; exact hi)]
  exact h.parts g
theorem div_zero_W {b : Nat} (h0 : b ≠ 0) (hb : b < 9007199254740992) : Fl.F.div (Fl.W 0) (Fl.W b) = some 0 := by
  obtain ⟨i, ha, _⟩ := Fl.read_W (k := 0) (by decide)
  obtain ⟨j, hbr, hj⟩ := Fl.read_W hb
  unfold Ieee.Format.div
  rw [ha, hbr]
  have hn : b * 2 ^ j ≠ 0 := Nat.mul_ne_zero h0 (Nat.pos_iff_ne_zero.1 (Nat.two_pow_pos j))
  simp only [Ieee.Datum.quotient, if_neg hn, Option.map_some, Nat.zero_mul, Nat.zero_shiftLeft, Nat.zero_div, Nat.zero_mod]
  rfl
theorem small_order {r : Nat} (h : r ≤ 4607182418800017408) : (Fl.F.order r 0 == some .lt) = false ∧ (Fl.F.order r 4607182418800017408 == some .gt) = false := by
  obtain ⟨h1, h2, h3⟩ := Fl.low_num (x := r) (by omega)
  constructor
  · rw [Fl.lss]
    unfold Fl.ltB
    have : Fl.sv r = (r : Int) := by unfold Fl.sv; rw [h1, h2]; rfl
    rw [this, show Fl.sv 0 = 0 by decide, decide_eq_false (by omega)]
    simp
  · rw [Fl.gtr]
    unfold Fl.ltB
    have : Fl.sv r = (r : Int) := by unfold Fl.sv; rw [h1, h2]; rfl
    rw [this, show Fl.sv 4607182418800017408 = 4607182418800017408 by decide, decide_eq_false (by omega)]
    simp
/-- a share of whole numbers -/
theorem share_W {a b : Nat} (hab : a ≤ b) (hb : b < 9007199254740992) : (b ≠ 0 → (Fl.F.order (byV (Fl.W a) (Fl.W b)) 0 == some .lt) = false ∧ (Fl.F.order (byV (Fl.W a) (Fl.W b)) 4607182418800017408 == some .gt) = false) ∧
    (b = 0 → (Fl.F.order (byV (Fl.W a) (Fl.W b)) (byV (Fl.W a) (Fl.W b)) == some .eq) = false) := by
  have nb := nz_W hb
  have na := nz_W (k := a) (by omega)
  have key : ∀ r, Fl.F.div (Fl.W a) (Fl.W b) = some r → r ≤ 4607182418800017408 → byV (Fl.W a) (Fl.W b) = r := fun r h1 h2 => by
    unfold byV
    rw [na, nb]
    show onN ((Fl.F.div (Fl.W a) (Fl.W b)).bind nz) = r
    rw [h1]
    show onN (nz r) = r
    rw [nz_low (by omega)]
    rfl
  refine ⟨fun h0 => ?_, fun h0 => ?_⟩
  · by_cases a0 : a = 0
    · subst a0
      rw [key 0 (div_zero_W h0 hb) (by decide)]
      exact small_order (by decide)
    · obtain ⟨r, h1, h2, h3, _⟩ := Fl.div_W a0 hab hb
      rw [key r h1 h3]
      exact small_order h3
  · subst h0
    obtain rfl : a = 0 := by omega
    have : byV (Fl.W 0) (Fl.W 0) = theNan := by decide
    rw [this]
    decide
end Go.Proofs.Ytfiimmbpfdpjfaa
