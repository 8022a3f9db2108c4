/-
  The plain law of TypesReads: what the code's functions and the document's answer compute is one, for all texts of at most 140737488351232 bytes. No program and no memory here.
-/
import Derived.Test.YtddagoihchlihaaQTypesReadsx3
namespace Go.Proofs.Ytddagoihchlihaa.Pure
open Go.RowKit Go.Proofs.Ytddagoihchlihaa.PTypesReads Go.Proofs.YtddagoihchlihaaW.PrintWords Go.Proofs.YtddagoihchlihaaW.PrintLast

theorem data_inj {a b : ByteArray} (h : a.data.toList = b.data.toList) : a = b := by
  obtain ⟨⟨x⟩⟩ := a
  obtain ⟨⟨y⟩⟩ := b
  simp only at h
  rw [h]
theorem toL (a : ByteArray) : a.toList = a.data.toList := ByteArray.toList_eq a
theorem sizeL (a : ByteArray) : a.size = a.data.toList.length := by
  rw [Array.length_toList]; rfl
theorem extL (s : ByteArray) (a b : Nat) : (s.extract a b).data.toList = (s.data.toList.drop a).take (b - a) := by
  obtain ⟨⟨l⟩⟩ := s
  simp [ByteArray.extract_mk]
theorem toL_inj {a b : ByteArray} : a.toList = b.toList ↔ a = b := by
  rw [toL, toL]
  exact ⟨data_inj, fun h => by rw [h]⟩

/-- begins -/
def pre (a p : ByteArray) : Bool := decide (p.size ≤ a.size) && ((a.extract 0 p.size).toList == p.toList)
def suf (a p : ByteArray) : Bool := decide (p.size ≤ a.size) && ((a.extract (a.size - p.size) a.size).toList == p.toList)

theorem pre_iff (a p : ByteArray) : pre a p = true ↔ p.data.toList <+: a.data.toList := by
  unfold pre
  rw [Bool.and_eq_true, decide_eq_true_eq, beq_iff_eq, toL, toL, extL, List.drop_zero, Nat.sub_zero, sizeL, sizeL]
  constructor
  · rintro ⟨_, h⟩
    exact ⟨_, by rw [← h, h]; exact (congrArg (· ++ List.drop p.data.toList.length a.data.toList) h.symm).trans (List.take_append_drop _ _)⟩
  · intro h
    exact ⟨h.length_le, (List.prefix_iff_eq_take.1 h).symm⟩

theorem hasPrefix_eq (a p : ByteArray) : strings_HasPrefix.f a p = some (pre a p) := by
  unfold strings_HasPrefix.f stringslite_HasPrefix.f pre
  by_cases h : p.size ≤ a.size
  · rw [if_pos (by omega), if_pos (by omega), if_pos (by omega)]
    simp [h]
  · rw [if_neg (by omega)]
    simp [h]

theorem cutPrefix_eq (a p : ByteArray) : strings_CutPrefix.f a p = some (if pre a p then (a.extract p.size a.size, true) else (a, false)) := by
  have h0 := hasPrefix_eq a p
  unfold strings_HasPrefix.f at h0
  unfold strings_CutPrefix.f stringslite_CutPrefix.f
  cases h1 : stringslite_HasPrefix.f a p with
  | none => rw [h1] at h0; simp at h0
  | some b =>
    rw [h1] at h0
    simp only [Option.bind_some, Option.some.injEq] at h0
    rw [← h0]
    cases b with
    | false => simp
    | true =>
      have hs : p.size ≤ a.size := by
        have := (Bool.and_eq_true _ _ ▸ (show pre a p = true from h0.symm) : decide (p.size ≤ a.size) = true ∧ _).1
        simpa using this
      simp only [Option.bind_some, if_true]
      rw [if_pos (by omega), if_pos (by omega)]
      simp

theorem wsub {m n : Nat} (h : n ≤ m) (hm : m ≤ 140737488351232) : wrap64 ((m : Int) - (n : Int)) = ((m - n : Nat) : Int) := by
  unfold wrap64; omega

theorem hasSuffix_eq (a p : ByteArray) (ha : a.size ≤ 140737488351232) : stringslite_HasSuffix.f a p = some (suf a p) := by
  unfold stringslite_HasSuffix.f suf
  by_cases h : p.size ≤ a.size
  · rw [if_pos (by omega), wsub h ha, if_pos (by omega), if_pos (by omega)]
    simp [h]
  · rw [if_neg (by omega)]
    simp [h]

theorem cutSuffix_eq (a p : ByteArray) (ha : a.size ≤ 140737488351232) : strings_CutSuffix.f a p = some (if suf a p then (a.extract 0 (a.size - p.size), true) else (a, false)) := by
  unfold strings_CutSuffix.f stringslite_CutSuffix.f
  rw [hasSuffix_eq a p ha]
  simp only [Option.bind_some]
  cases h1 : suf a p with
  | false => simp
  | true =>
    have hs : p.size ≤ a.size := by
      unfold suf at h1
      rw [Bool.and_eq_true, decide_eq_true_eq] at h1
      exact h1.1
    rw [if_pos rfl, wsub hs ha, if_pos (by omega), if_pos (by omega)]
    simp

abbrev P1 : ByteArray := ⟨#[99, 104, 97, 110, 60, 45, 32]⟩
abbrev P2 : ByteArray := ⟨#[60, 45, 99, 104, 97, 110, 32]⟩
abbrev P3 : ByteArray := ⟨#[99, 104, 97, 110, 32]⟩
abbrev BL : ByteArray := ⟨#[40]⟩
abbrev BR : ByteArray := ⟨#[41]⟩
abbrev AR : ByteArray := ⟨#[60, 45]⟩

/-- what types.cut answers -/
def cutV (a : ByteArray) : Int × ByteArray × Bool :=
  if pre a P1 then (1, a.extract 7 a.size, true)
  else if pre a P2 then (2, a.extract 7 a.size, true)
  else if pre a P3 then
    if pre (a.extract 5 a.size) BL then
      if suf ((a.extract 5 a.size).extract 1 (a.extract 5 a.size).size) BR then
        (0, ((a.extract 5 a.size).extract 1 (a.extract 5 a.size).size).extract 0 (((a.extract 5 a.size).extract 1 (a.extract 5 a.size).size).size - 1),
          pre (((a.extract 5 a.size).extract 1 (a.extract 5 a.size).size).extract 0 (((a.extract 5 a.size).extract 1 (a.extract 5 a.size).size).size - 1)) AR)
      else (0, (a.extract 5 a.size).extract 1 (a.extract 5 a.size).size, false)
    else (0, a.extract 5 a.size, !pre (a.extract 5 a.size) AR)
  else (0, ⟨#[]⟩, false)

theorem ext_size (a : ByteArray) (i j : Nat) (h1 : j ≤ a.size) : (a.extract i j).size = j - i := by
  rw [sizeL, extL, List.length_take, List.length_drop, ← sizeL]
  omega
theorem ext_le (a : ByteArray) (i j : Nat) : (a.extract i j).size ≤ a.size := by
  rw [sizeL, extL, List.length_take, List.length_drop, ← sizeL]
  omega

theorem cut_eq (a : ByteArray) (ha : a.size ≤ 140737488351232) : types_cut.f a = some (cutV a) := by
  unfold types_cut.f cutV
  rw [cutPrefix_eq]
  simp only [Option.bind_some]
  cases h1 : pre a P1 with
  | true => simp; rfl
  | false =>
    simp only [Bool.false_eq_true, if_false]
    rw [cutPrefix_eq]
    simp only [Option.bind_some]
    cases h2 : pre a P2 with
    | true => simp; rfl
    | false =>
      simp only [Bool.false_eq_true, if_false]
      rw [cutPrefix_eq]
      simp only [Option.bind_some]
      cases h3 : pre a P3 with
      | false => simp
      | true =>
        simp only [if_true]
        have e5 : (⟨#[99, 104, 97, 110, 32]⟩ : ByteArray).size = 5 := rfl
        rw [e5]
        have hs := ext_le a 5 a.size
        generalize a.extract 5 a.size = e at *
        rw [cutPrefix_eq]
        simp only [Option.bind_some]
        cases h4 : pre e BL with
        | false =>
          simp only [Bool.false_eq_true, if_false]
          rw [hasPrefix_eq]
          simp
        | true =>
          simp only [if_true]
          have e1 : (⟨#[40]⟩ : ByteArray).size = 1 := rfl
          rw [e1]
          have hs1 := ext_le e 1 e.size
          generalize e.extract 1 e.size = i at *
          rw [cutSuffix_eq _ _ (by omega)]
          simp only [Option.bind_some]
          cases h5 : suf i BR with
          | false => simp
          | true =>
            simp only [if_true]
            have e1' : (⟨#[41]⟩ : ByteArray).size = 1 := rfl
            rw [e1', hasPrefix_eq]
            simp

def plainB (a : ByteArray) : Bool :=
  a.toList == [105, 110, 116] || a.toList == [98, 111, 111, 108] || a.toList == [77, 117, 116, 101, 120] || a.toList == [87, 97, 105, 116, 71, 114, 111, 117, 112]

/-- how many channels stand within one another; none: it is no type -/
def dep : Nat → ByteArray → Option Nat
  | 0, _ => none
  | f + 1, a => if plainB a then some 0 else if (cutV a).2.2 then (dep f (cutV a).2.1).map (· + 1) else none

theorem pre_size {a p : ByteArray} (h : pre a p = true) : p.size ≤ a.size := by
  unfold pre at h
  rw [Bool.and_eq_true, decide_eq_true_eq] at h
  exact h.1

theorem cutV_lt {a : ByteArray} (h : (cutV a).2.2 = true) : (cutV a).2.1.size < a.size := by
  unfold cutV at *
  split
  · rename_i h1
    have := pre_size h1
    have e : P1.size = 7 := rfl
    show (a.extract 7 a.size).size < a.size
    rw [ext_size _ _ _ (Nat.le_refl _)]
    omega
  · rename_i h1
    rw [if_neg h1] at h
    split
    · rename_i h2
      have := pre_size h2
      have e : P2.size = 7 := rfl
      show (a.extract 7 a.size).size < a.size
      rw [ext_size _ _ _ (Nat.le_refl _)]
      omega
    · rename_i h2
      rw [if_neg h2] at h
      split
      · rename_i h3
        rw [if_pos h3] at h
        have hp := pre_size h3
        have e : P3.size = 5 := rfl
        have hs := ext_size a 5 a.size (Nat.le_refl _)
        generalize a.extract 5 a.size = e5 at *
        split
        · have hs1 := ext_le e5 1 e5.size
          generalize e5.extract 1 e5.size = i at *
          split
          · show (i.extract 0 (i.size - 1)).size < a.size
            have := ext_le i 0 (i.size - 1)
            omega
          · show i.size < a.size
            omega
        · show e5.size < a.size
          omega
      · rename_i h3
        rw [if_neg h3] at h
        cases h

theorem dep_more : ∀ (f g : Nat) (a : ByteArray), a.size < f → a.size < g → dep f a = dep g a
  | 0, _, _, h, _ => by omega
  | _ + 1, 0, _, _, h => by omega
  | f + 1, g + 1, a, hf, hg => by
    unfold dep
    by_cases hp : plainB a = true
    · rw [if_pos hp, if_pos hp]
    · rw [if_neg hp, if_neg hp]
      by_cases hc : (cutV a).2.2 = true
      · rw [if_pos hc, if_pos hc]
        have := cutV_lt hc
        rw [dep_more f g _ (by omega) (by omega)]
      · rw [if_neg hc, if_neg hc]

def depth (a : ByteArray) : Option Nat := dep (a.size + 1) a
theorem depth_eq (a : ByteArray) : depth a = if plainB a then some 0 else if (cutV a).2.2 then (depth (cutV a).2.1).map (· + 1) else none := by
  show dep (a.size + 1) a = _
  unfold dep
  by_cases hp : plainB a = true
  · rw [if_pos hp, if_pos hp]
  · rw [if_neg hp, if_neg hp]
    by_cases hc : (cutV a).2.2 = true
    · rw [if_pos hc, if_pos hc]
      have := cutV_lt hc
      rw [dep_more a.size ((cutV a).2.1.size + 1) _ (by omega) (by omega)]
      rfl
    · rw [if_neg hc, if_neg hc]

def measV (n : Int) (a : ByteArray) : Int × Bool :=
  match depth a with
  | some d => (n + d, decide (n + d ≤ 40))
  | none => (0, false)

theorem wadd {n : Int} (h0 : 0 ≤ n) (h : n ≤ 140737488351232) : wrap64 (n + 1) = n + 1 := by
  unfold wrap64; omega

theorem meas_l : ∀ (m : Nat) (a : ByteArray) (n : Int) (k : Nat), a.size ≤ m → 0 ≤ n → n + a.size ≤ 140737488351232 → 2 * m + 2 ≤ k → types_measure.l0 k a n = some (measV n a) := by
  intro m
  induction m with
  | zero =>
    intro a n k ha h0 hb hk
    obtain ⟨k, rfl⟩ : ∃ j, k = j + 2 := ⟨k - 2, by omega⟩
    have hj : types_measure.l0 (k + 2) a n = types_measure.j1 (k + 1) a n (plainB a) := by
      simp only [types_measure.l0]
      unfold plainB
      split
      · rename_i h; simp [h]
      · split
        · rename_i h; simp [h]
        · split
          · rename_i h; simp [h]
          · rename_i q1 q2 q3
            have b1 := beq_eq_false_iff_ne.2 q1
            have b2 := beq_eq_false_iff_ne.2 q2
            have b3 := beq_eq_false_iff_ne.2 q3
            rw [b1, b2, b3]
            rfl
    rw [hj]
    simp only [types_measure.j1]
    unfold measV
    rw [depth_eq]
    by_cases hp : plainB a = true
    · rw [if_pos hp, if_pos hp]; simp
    · rw [if_neg hp, if_neg hp, cut_eq a (by omega)]
      simp only [Option.bind_some]
      by_cases hc : (cutV a).2.2 = true
      · have := cutV_lt hc; omega
      · rw [if_neg hc, if_neg hc]
  | succ m ih =>
    intro a n k ha h0 hb hk
    obtain ⟨k, rfl⟩ : ∃ j, k = j + 2 := ⟨k - 2, by omega⟩
    have hj : types_measure.l0 (k + 2) a n = types_measure.j1 (k + 1) a n (plainB a) := by
      simp only [types_measure.l0]
      unfold plainB
      split
      · rename_i h; simp [h]
      · split
        · rename_i h; simp [h]
        · split
          · rename_i h; simp [h]
          · rename_i q1 q2 q3
            have b1 := beq_eq_false_iff_ne.2 q1
            have b2 := beq_eq_false_iff_ne.2 q2
            have b3 := beq_eq_false_iff_ne.2 q3
            rw [b1, b2, b3]
            rfl
    rw [hj]
    simp only [types_measure.j1]
    unfold measV
    rw [depth_eq]
    by_cases hp : plainB a = true
    · rw [if_pos hp, if_pos hp]; simp
    · rw [if_neg hp, if_neg hp, cut_eq a (by omega)]
      simp only [Option.bind_some]
      by_cases hc : (cutV a).2.2 = true
      · have := cutV_lt hc
        rw [if_pos hc, if_pos hc, wadd h0 (by omega), ih _ _ _ (by omega) (by omega) (by omega) (by omega)]
        unfold measV
        cases depth (cutV a).2.1 with
        | none => rfl
        | some d => simp; omega
      · rw [if_neg hc, if_neg hc]

theorem meas_ev (a : ByteArray) (ha : a.size ≤ 140737488351232) : Ev (fun k => types_measure.f k a) (measV 0 a) :=
  ⟨2 * a.size + 2, fun k hk => by
    show types_measure.l0 k a 0 = _
    exact meas_l a.size a 0 k (Nat.le_refl _) (by omega) (by omega) hk⟩

def rightB (a : ByteArray) : Bool := (measV 0 a).2
theorem right_ev (a : ByteArray) (ha : a.size ≤ 140737488351232) : Ev (fun k => types_Right.f k a) (rightB a) :=
  (meas_ev a ha).bind (Ev.now _)
def splitA (a : ByteArray) : Int × ByteArray × Bool := if rightB a then cutV a else (0, ⟨#[]⟩, false)
theorem split_ev (a : ByteArray) (ha : a.size ≤ 140737488351232) : Ev (fun k => types_Split.f k a) (splitA a) := by
  refine (right_ev a ha).bind (Ev.congr (f := fun _ => some (splitA a)) (fun k => ?_) (Ev.now _))
  unfold splitA
  by_cases h : rightB a = true
  · rw [if_pos h, if_pos h, cut_eq a ha]; rfl
  · rw [if_neg h, if_neg h]

theorem begins_eq (a p : ByteArray) : drowseref04_begins.f a p = some (pre a p) := by
  unfold drowseref04_begins.f pre
  by_cases h : p.size ≤ a.size
  · rw [if_pos (by omega), if_pos (by omega), if_pos (by omega)]
    simp [h]
  · rw [if_neg (by omega)]
    simp [h]

theorem bt_list (s : ByteArray) (i : Int) : bt s i = ((s.data.toList.getD i.toNat 0).toNat : Int) := by
  unfold bt
  split
  · rename_i h
    have h' : i.toNat < s.data.toList.length := by rw [← sizeL]; exact h
    simp [List.getD_eq_getElem?_getD, List.getElem?_eq_getElem h']
    rfl
  · rename_i h
    have h' : s.data.toList.length ≤ i.toNat := by rw [← sizeL]; omega
    simp [List.getD_eq_getElem?_getD, List.getElem?_eq_none h']

theorem u8_eq (c : UInt8) (n : Nat) (h : n < 256) : ((c.toNat : Int) = (n : Int)) ↔ c = n.toUInt8 := by
  constructor
  · intro e
    have e' : c.toNat = n := by omega
    apply UInt8.toNat_inj.1
    rw [e']
    simp; omega
  · rintro rfl
    simp; omega

theorem pre_BL (e : ByteArray) : pre e BL = true ↔ 1 ≤ e.size ∧ bt e 0 = 40 := by
  rw [pre_iff, bt_list, sizeL]
  show [40] <+: _ ↔ _
  generalize e.data.toList = l
  cases l with
  | nil => simp
  | cons x t =>
    rw [List.cons_prefix_cons]
    simp only [List.nil_prefix, and_true, List.length_cons]
    have h := u8_eq x 40 (by omega)
    constructor
    · intro h'
      refine ⟨by omega, ?_⟩
      rw [← h']; rfl
    · rintro ⟨_, h'⟩
      exact (h.1 (by simpa using h')).symm

theorem suf_BR (i : ByteArray) : suf i BR = true ↔ 1 ≤ i.size ∧ bt i ((i.size : Int) - 1) = 41 := by
  unfold suf
  rw [Bool.and_eq_true, decide_eq_true_eq, beq_iff_eq, toL, toL, extL, bt_list]
  show 1 ≤ i.size ∧ _ ↔ _
  refine and_congr_right fun h1 => ?_
  have e1 : BR.size = 1 := rfl
  rw [e1, show ((i.size : Int) - 1).toNat = i.size - 1 by omega, show i.size - (i.size - 1) = 1 by omega]
  have hl : i.size - 1 < i.data.toList.length := by rw [← sizeL]; omega
  generalize i.size - 1 = j at *
  rw [List.drop_eq_getElem_cons hl, List.take_succ_cons, List.take_zero, List.getD_eq_getElem?_getD, List.getElem?_eq_getElem hl, Option.getD_some]
  have h := u8_eq i.data.toList[j] 41 (by omega)
  show [i.data.toList[j]] = [41] ↔ _
  rw [List.cons.injEq]
  constructor
  · rintro ⟨h', _⟩
    rw [h']; rfl
  · intro h'
    exact ⟨h.1 (by simpa using h'), rfl⟩

theorem bt_ext (e : ByteArray) (j : Int) (h0 : 0 ≤ j) (h1 : j + 1 < e.size) : bt (e.extract 1 e.size) j = bt e (j + 1) := by
  rw [bt_list, bt_list, extL]
  have e1 : (j + 1).toNat = 1 + j.toNat := by omega
  rw [e1, List.getD_eq_getElem?_getD, List.getD_eq_getElem?_getD, List.getElem?_take, if_pos (by omega), List.getElem?_drop]

theorem ext_ext (e : ByteArray) : (e.extract 1 e.size).extract 0 ((e.extract 1 e.size).size - 1) = e.extract 1 (e.size - 1) := by
  apply data_inj
  rw [extL, extL, extL, ext_size _ _ _ (Nat.le_refl _), List.drop_zero, List.take_take]
  congr 1
  omega

/-- what the document's split answers -/
def splitV (a : ByteArray) : Int × ByteArray × Bool :=
  if pre a P3 then
    if 2 ≤ (a.extract 5 a.size).size ∧ bt (a.extract 5 a.size) 0 = 40 ∧ bt (a.extract 5 a.size) (((a.extract 5 a.size).size : Int) - 1) = 41 then
      (0, (a.extract 5 a.size).extract 1 ((a.extract 5 a.size).size - 1), pre ((a.extract 5 a.size).extract 1 ((a.extract 5 a.size).size - 1)) AR)
    else (0, a.extract 5 a.size, !pre (a.extract 5 a.size) AR)
  else if pre a P1 then (1, a.extract 7 a.size, true)
  else if pre a P2 then (2, a.extract 7 a.size, true)
  else (0, ⟨#[]⟩, false)

theorem split_eq (a : ByteArray) (ha : a.size ≤ 140737488351232) (k : Nat) : drowseref04_split.f (k + 1) a = some (splitV a) := by
  unfold drowseref04_split.f splitV
  rw [begins_eq, begins_eq, begins_eq]
  simp only [Option.bind_some]
  cases h3 : pre a P3 with
  | true =>
    have hp := pre_size h3
    have e3 : P3.size = 5 := rfl
    simp only [if_true]
    rw [if_pos (by omega)]
    have hs := ext_le a 5 a.size
    generalize a.extract 5 a.size = e at *
    by_cases h2 : 2 ≤ e.size
    · have ws : wrap64 ((e.size : Int) - 1) = ((e.size - 1 : Nat) : Int) := by unfold wrap64; omega
      have ws' : ((e.size - 1 : Nat) : Int) = (e.size : Int) - 1 := by omega
      rw [if_pos (by omega), if_pos (by omega)]
      by_cases h4 : bt e 0 = 40
      · rw [if_pos h4, ws, if_pos (by omega), if_pos (by omega)]
        simp only [drowseref04_split.j0]
        rw [ws, ws', ← ws']
        by_cases h5 : bt e ((e.size - 1 : Nat) : Int) = 41
        · rw [if_pos (by rw [h5]; rfl), if_pos (by omega), if_pos (by omega), begins_eq, if_pos ⟨h2, h4, h5⟩]
          simp
        · rw [if_neg (by simpa using h5), begins_eq, if_neg (fun h => h5 h.2.2)]
          simp
      · rw [if_neg h4, if_neg (fun h => h4 h.2.1)]
        simp only [drowseref04_split.j0]
        rw [if_neg (by simp), begins_eq]
        simp
    · rw [if_neg (by omega), if_neg (fun h => h2 h.1)]
      simp only [drowseref04_split.j0]
      rw [if_neg (by simp), begins_eq]
      simp
  | false =>
    simp only [Bool.false_eq_true, if_false]
    cases h1 : pre a P1 with
    | true =>
      have hp := pre_size h1
      have e1 : P1.size = 7 := rfl
      simp only [if_true]
      rw [if_pos (by omega)]
    | false =>
      simp only [Bool.false_eq_true, if_false]
      cases h2 : pre a P2 with
      | true =>
        have hp := pre_size h2
        have e2 : P2.size = 7 := rfl
        simp only [if_true]
        rw [if_pos (by omega)]
      | false => simp

theorem apart {a p q : ByteArray} (hp : pre a p = true) (hq : pre a q = true) (hl : p.size ≤ q.size) : p.data.toList <+: q.data.toList := by
  rw [pre_iff] at hp hq
  rw [sizeL, sizeL] at hl
  exact List.prefix_of_prefix_length_le hp hq hl
theorem not13 {a : ByteArray} (h1 : pre a P1 = true) : pre a P3 = false := by
  cases h : pre a P3 with
  | false => rfl
  | true => exact absurd (apart h h1 (by decide)) (by decide)
theorem not23 {a : ByteArray} (h1 : pre a P2 = true) : pre a P3 = false := by
  cases h : pre a P3 with
  | false => rfl
  | true => exact absurd (apart h h1 (by decide)) (by decide)

/-- where a first word is one of these, it is no other -/
theorem bl_cases {a : ByteArray} (h : pre a BL = true) : pre a P1 = false ∧ pre a P2 = false ∧ pre a P3 = false := by
  refine ⟨?_, ?_, ?_⟩
  · cases h1 : pre a P1 with
    | false => rfl
    | true => exact absurd (apart h h1 (by decide)) (by decide)
  · cases h1 : pre a P2 with
    | false => rfl
    | true => exact absurd (apart h h1 (by decide)) (by decide)
  · cases h1 : pre a P3 with
    | false => rfl
    | true => exact absurd (apart h h1 (by decide)) (by decide)

theorem split_cut {a : ByteArray} (h : (cutV a).2.2 = true) : splitV a = cutV a := by
  unfold cutV at h ⊢
  unfold splitV
  cases h1 : pre a P1 with
  | true => simp [not13 h1]
  | false =>
    cases h2 : pre a P2 with
    | true => simp [not23 h2]
    | false =>
      rw [h1, h2] at h
      simp only [Bool.false_eq_true, if_false] at h ⊢
      cases h3 : pre a P3 with
      | false => simp
      | true =>
        rw [h3] at h
        simp only [if_true] at h ⊢
        generalize a.extract 5 a.size = e at *
        cases h4 : pre e BL with
        | false =>
          rw [if_neg]
          · simp
          · rintro ⟨g1, g2, _⟩
            have := (pre_BL e).2 ⟨by omega, g2⟩
            rw [h4] at this
            cases this
        | true =>
          rw [h4] at h
          simp only [if_true] at h ⊢
          obtain ⟨g1, g2⟩ := (pre_BL e).1 h4
          cases h5 : suf (e.extract 1 e.size) BR with
          | false => rw [h5] at h; simp at h
          | true =>
            simp only [if_true]
            obtain ⟨g3, g4⟩ := (suf_BR _).1 h5
            have gs := ext_size e 1 e.size (Nat.le_refl _)
            rw [bt_ext e _ (by omega) (by omega)] at g4
            rw [if_pos ⟨by omega, g2, by rw [← g4]; congr 1; omega⟩, ext_ext]

theorem split_not {a : ByteArray} (h : (cutV a).2.2 = false) (hs : (splitV a).2.2 = true) : pre (splitV a).2.1 BL = true := by
  unfold cutV at h
  unfold splitV at hs ⊢
  cases h1 : pre a P1 with
  | true => rw [h1] at h; simp at h
  | false =>
    cases h2 : pre a P2 with
    | true => rw [h1, h2] at h; simp at h
    | false =>
      cases h3 : pre a P3 with
      | false => rw [h1, h2, h3] at hs; simp at hs
      | true =>
        rw [h1, h2, h3] at h
        rw [h3] at hs
        simp only [Bool.false_eq_true, if_false, if_true] at h hs ⊢
        generalize a.extract 5 a.size = e at *
        cases h4 : pre e BL with
        | false =>
          rw [h4] at h
          simp only [Bool.false_eq_true, if_false] at h
          rw [if_neg] at hs
          · rw [h] at hs; cases hs
          · rintro ⟨g1, g2, _⟩
            have := (pre_BL e).2 ⟨by omega, g2⟩
            rw [h4] at this
            cases this
        | true =>
          rw [h4] at h
          simp only [if_true] at h
          obtain ⟨g1, g2⟩ := (pre_BL e).1 h4
          by_cases hc : 2 ≤ e.size ∧ bt e 0 = 40 ∧ bt e ((e.size : Int) - 1) = 41
          · have gs := ext_size e 1 e.size (Nat.le_refl _)
            have h5 : suf (e.extract 1 e.size) BR = true := by
              rw [suf_BR, bt_ext e _ (by omega) (by omega)]
              refine ⟨by omega, ?_⟩
              rw [← hc.2.2]; congr 1; omega
            rw [h5] at h
            simp only [if_true] at h
            rw [ext_ext] at h
            rw [if_pos hc] at hs
            simp only at hs
            rw [h] at hs
            cases hs
          · rw [if_neg hc]
            exact h4

theorem bl_split {a : ByteArray} (h : pre a BL = true) : (splitV a).2.2 = false := by
  obtain ⟨h1, h2, h3⟩ := bl_cases h
  unfold splitV
  simp [h1, h2, h3]

theorem plain_cases {a : ByteArray} (h : plainB a = true) : a = ⟨#[105, 110, 116]⟩ ∨ a = ⟨#[98, 111, 111, 108]⟩ ∨ a = ⟨#[77, 117, 116, 101, 120]⟩ ∨ a = ⟨#[87, 97, 105, 116, 71, 114, 111, 117, 112]⟩ := by
  unfold plainB at h
  simp only [Bool.or_eq_true, beq_iff_eq] at h
  have t : ∀ l : List UInt8, a.toList = l → a = ⟨l.toArray⟩ := fun l e => data_inj (by rw [← toL, e])
  rcases h with ((h | h) | h) | h
  · exact .inl (t _ h)
  · exact .inr (.inl (t _ h))
  · exact .inr (.inr (.inl (t _ h)))
  · exact .inr (.inr (.inr (t _ h)))

theorem no_pre {a p : ByteArray} (h : ¬ p.data.toList <+: a.data.toList) : pre a p = false := by
  cases h' : pre a p with
  | false => rfl
  | true => exact absurd ((pre_iff _ _).1 h') h

theorem plain_none {a : ByteArray} (h : plainB a = true) : splitV a = (0, ⟨#[]⟩, false) ∧ cutV a = (0, ⟨#[]⟩, false) ∧ pre a BL = false := by
  have key : pre a P1 = false ∧ pre a P2 = false ∧ pre a P3 = false ∧ pre a BL = false := by
    rcases plain_cases h with rfl | rfl | rfl | rfl <;> exact ⟨no_pre (by decide), no_pre (by decide), no_pre (by decide), no_pre (by decide)⟩
  obtain ⟨h1, h2, h3, h4⟩ := key
  unfold splitV cutV
  simp [h1, h2, h3, h4]

theorem plain_eq (a : ByteArray) : drowseref04_plain.f a = some (plainB a) := by
  unfold drowseref04_plain.f plainB
  split
  · rename_i h; simp [h]
  · split
    · rename_i h; simp [h]
    · split
      · rename_i h; simp [h]
      · rename_i q1 q2 q3
        have b1 := beq_eq_false_iff_ne.2 q1
        have b2 := beq_eq_false_iff_ne.2 q2
        have b3 := beq_eq_false_iff_ne.2 q3
        rw [b1, b2, b3]
        rfl

theorem splitV_lt {a : ByteArray} (h : (splitV a).2.2 = true) : (splitV a).2.1.size < a.size := by
  by_cases hc : (cutV a).2.2 = true
  · rw [split_cut hc]; exact cutV_lt hc
  · unfold splitV at h ⊢
    have h1 : pre a P1 = false := by
      cases g : pre a P1 with
      | false => rfl
      | true => unfold cutV at hc; simp [g] at hc
    have h2 : pre a P2 = false := by
      cases g : pre a P2 with
      | false => rfl
      | true => unfold cutV at hc; simp [g, h1] at hc
    cases h3 : pre a P3 with
    | false => rw [h1, h2, h3] at h; simp at h
    | true =>
      have hp := pre_size h3
      have e : P3.size = 5 := rfl
      have hs := ext_size a 5 a.size (Nat.le_refl _)
      simp only [if_true]
      generalize a.extract 5 a.size = e5 at *
      split
      · show (e5.extract 1 (e5.size - 1)).size < a.size
        have := ext_le e5 1 (e5.size - 1)
        omega
      · show e5.size < a.size
        omega

/-- the document's Right, from the round n on -/
def rightV (n : Int) (a : ByteArray) : Bool := (measV n a).2

theorem rightV_eq (n : Int) (a : ByteArray) (h : n ≤ 40) :
    rightV n a = if plainB a then true else if (splitV a).2.2 then rightV (n + 1) (splitV a).2.1 else false := by
  unfold rightV measV
  rw [depth_eq]
  by_cases hp : plainB a = true
  · rw [if_pos hp, if_pos hp]; simp; omega
  · rw [if_neg hp, if_neg hp]
    by_cases hc : (cutV a).2.2 = true
    · rw [if_pos hc, split_cut hc, if_pos hc]
      cases depth (cutV a).2.1 with
      | none => rfl
      | some d => simp; omega
    · rw [if_neg hc]
      by_cases hs : (splitV a).2.2 = true
      · rw [if_pos hs]
        have hb := split_not (by simpa using hc) hs
        have hb2 := bl_split hb
        rw [depth_eq]
        have hp2 : ¬ plainB (splitV a).2.1 = true := fun g => by rw [(plain_none g).2.2] at hb; cases hb
        have hc2 : ¬ (cutV (splitV a).2.1).2.2 = true := fun g => by rw [split_cut g, g] at hb2; cases hb2
        rw [if_neg hp2, if_neg hc2]
      · rw [if_neg hs]

theorem right_l : ∀ (m : Nat) (a : ByteArray) (n : Int) (k : Nat), a.size ≤ m → 0 ≤ n → a.size ≤ 140737488351232 → n + a.size ≤ 140737488351232 → m + 2 ≤ k → drowseref04_Right.l0 k a n = some (rightV n a) := by
  intro m
  induction m with
  | zero =>
    intro a n k ha h0 hb hb2 hk
    obtain ⟨k, rfl⟩ : ∃ j, k = j + 2 := ⟨k - 2, by omega⟩
    simp only [drowseref04_Right.l0]
    by_cases hn : n ≤ 40
    · rw [if_pos hn, rightV_eq n a hn, plain_eq, split_eq a hb]
      simp only [Option.bind_some]
      by_cases hp : plainB a = true
      · rw [if_pos hp, if_pos hp]
      · rw [if_neg hp, if_neg hp]
        by_cases hs : (splitV a).2.2 = true
        · have := splitV_lt hs; omega
        · rw [if_neg hs, if_neg hs]
    · rw [if_neg hn]
      unfold rightV measV
      cases depth a with
      | none => rfl
      | some d => simp; omega
  | succ m ih =>
    intro a n k ha h0 hb hb2 hk
    obtain ⟨k, rfl⟩ : ∃ j, k = j + 2 := ⟨k - 2, by omega⟩
    rw [drowseref04_Right.l0]
    by_cases hn : n ≤ 40
    · rw [if_pos hn, rightV_eq n a hn, plain_eq, split_eq a hb]
      simp only [Option.bind_some]
      by_cases hp : plainB a = true
      · rw [if_pos hp, if_pos hp]
      · rw [if_neg hp, if_neg hp]
        by_cases hs : (splitV a).2.2 = true
        · have := splitV_lt hs
          rw [if_pos hs, if_pos hs, wadd h0 (by omega)]
          exact ih _ _ _ (by omega) (by omega) (by omega) (by omega) (by omega)
        · rw [if_neg hs, if_neg hs]
    · rw [if_neg hn]
      unfold rightV measV
      cases depth a with
      | none => rfl
      | some d => simp; omega

theorem refRight_ev (a : ByteArray) (ha : a.size ≤ 140737488351232) : Ev (fun k => drowseref04_Right.f k a) (rightB a) :=
  ⟨a.size + 2, fun k hk => by
    show drowseref04_Right.l0 k a 0 = _
    exact right_l a.size a 0 k (Nat.le_refl _) (by omega) ha (by omega) hk⟩

theorem right_cut {a : ByteArray} (h : rightB a = true) : splitV a = cutV a := by
  by_cases hp : plainB a = true
  · rw [(plain_none hp).1, (plain_none hp).2.1]
  · have hc : (cutV a).2.2 = true := by
      unfold rightB measV at h
      rw [depth_eq, if_neg hp] at h
      by_cases hc : (cutV a).2.2 = true
      · exact hc
      · rw [if_neg hc] at h; cases h
    exact split_cut hc

theorem refSplit_ev (a : ByteArray) (ha : a.size ≤ 140737488351232) : Ev (fun k => drowseref04_Split.f k a) (splitA a) := by
  refine (refRight_ev a ha).bind ?_
  refine ⟨1, fun k hk => ?_⟩
  obtain ⟨k, rfl⟩ : ∃ j, k = j + 1 := ⟨k - 1, by omega⟩
  unfold splitA
  by_cases h : rightB a = true
  · simp only [h, if_true]
    rw [split_eq a ha, right_cut h]; rfl
  · simp only [h]; rfl

abbrev P4 : ByteArray := ⟨#[99, 104, 97, 110, 32, 40]⟩
/-- a channel's type of a direction and an element, and the error -/
def chanV (d : Int) (a : ByteArray) : ByteArray × Int :=
  if d < 0 ∨ 2 < d then (⟨#[]⟩, 1)
  else if (measV 0 a).2 = true ∧ (measV 0 a).1 ≠ 40 then
    if d = 1 then (P1 ++ a, 0) else if d = 2 then (P2 ++ a, 0)
    else if pre a AR then ((P4 ++ a) ++ BR, 0) else (P3 ++ a, 0)
  else (⟨#[]⟩, 61)

theorem chan_ev (d : Int) (a : ByteArray) (ha : a.size ≤ 140737488351232) : Ev (fun k => types_Chan.f k d a) (chanV d a) := by
  have hj : Ev (fun k => types_Chan.j0 k d a (decide (d < 0 ∨ 2 < d))) (chanV d a) := by
    refine Ev.step (fun k => by rw [types_Chan.j0]) ?_
    unfold chanV
    by_cases hd : d < 0 ∨ 2 < d
    · simp only [hd, decide_true, if_true]; exact Ev.now _
    · simp only [hd, decide_false, Bool.false_eq_true, if_false]
      refine (meas_ev a ha).bind ?_
      have key : ∀ b : Bool, Ev (fun k => types_Chan.j1 k d a b) (if b = false then
          (if d = 1 then (P1 ++ a, 0) else if d = 2 then (P2 ++ a, 0) else if pre a AR then ((P4 ++ a) ++ BR, 0) else (P3 ++ a, 0)) else (⟨#[]⟩, 61)) := by
        intro b
        refine Ev.step (fun k => by rw [types_Chan.j1]) ?_
        cases b with
        | true => simp only [if_true]; exact Ev.now _
        | false =>
          simp only [Bool.false_eq_true, if_false, if_true]
          by_cases h1 : d = 1
          · simp only [h1, if_true]
            refine Ev.congr (f := fun _ => some _) (fun k => ?_) (Ev.now _)
            rw [if_pos (by omega)]
          · simp only [h1, if_false]
            by_cases h2 : d = 2
            · simp only [h2, if_true]
              refine Ev.congr (f := fun _ => some _) (fun k => ?_) (Ev.now _)
              rw [if_pos (by omega)]
            · simp only [h2, if_false]
              refine Ev.congr (f := fun _ => some _) (fun k => ?_) (Ev.now _)
              rw [hasPrefix_eq]
              simp only [Option.bind_some]
              cases hp : pre a AR with
              | true =>
                simp only [if_true]
                have e6 : ((⟨#[99, 104, 97, 110, 32, 40]⟩ : ByteArray) ++ a).size = 6 + a.size := ByteArray.size_append
                rw [if_pos (by omega), if_pos (by omega)]
              | false =>
                simp only [Bool.false_eq_true, if_false]
                rw [if_pos (by omega)]
      by_cases hm : (measV 0 a).2 = true
      · simp only [hm, if_true, true_and]
        have := key ((measV 0 a).1 == 40)
        by_cases h40 : (measV 0 a).1 = 40
        · have hb : ((measV 0 a).1 == 40) = true := beq_iff_eq.2 h40
          rw [hb] at this
          rw [hb]
          simpa [h40] using this
        · have hb : ((measV 0 a).1 == 40) = false := beq_eq_false_iff_ne.2 h40
          rw [hb] at this
          rw [hb]
          simpa [h40] using this
      · simp only [hm]
        simpa using key true
  unfold types_Chan.f
  by_cases h0 : d < 0
  · simp only [h0, if_true]
    simpa [h0] using hj
  · simp only [h0, if_false]
    simpa [h0] using hj

def depV (a : ByteArray) : Int := if rightB a = true then (measV 0 a).1 else 0
theorem dep_ev (a : ByteArray) (ha : a.size ≤ 140737488351232) : Ev (fun k => types_Depth.f k a) (depV a) := by
  refine (meas_ev a ha).bind (Ev.congr (f := fun _ => some (depV a)) (fun k => ?_) (Ev.now _))
  unfold depV rightB
  split <;> rfl

theorem depth_l : ∀ (m : Nat) (a : ByteArray) (n : Int) (k d : Nat), a.size ≤ m → depth a = some d → 0 ≤ n → a.size ≤ 140737488351232 → n + a.size ≤ 140737488351232 → m + 2 ≤ k → drowseref04_Depth.l0 k a n = some (n + d) := by
  intro m
  induction m with
  | zero =>
    intro a n k d ha hd h0 hb hb2 hk
    obtain ⟨k, rfl⟩ : ∃ j, k = j + 2 := ⟨k - 2, by omega⟩
    rw [depth_eq] at hd
    rw [drowseref04_Depth.l0, split_eq a hb]
    simp only [Option.bind_some]
    by_cases hp : plainB a = true
    · rw [if_pos hp] at hd
      cases hd
      rw [(plain_none hp).1]
      simp
    · rw [if_neg hp] at hd
      by_cases hc : (cutV a).2.2 = true
      · have := cutV_lt hc; omega
      · rw [if_neg hc] at hd; cases hd
  | succ m ih =>
    intro a n k d ha hd h0 hb hb2 hk
    obtain ⟨k, rfl⟩ : ∃ j, k = j + 2 := ⟨k - 2, by omega⟩
    rw [depth_eq] at hd
    rw [drowseref04_Depth.l0, split_eq a hb]
    simp only [Option.bind_some]
    by_cases hp : plainB a = true
    · rw [if_pos hp] at hd
      cases hd
      rw [(plain_none hp).1]
      simp
    · rw [if_neg hp] at hd
      by_cases hc : (cutV a).2.2 = true
      · rw [if_pos hc] at hd
        have := cutV_lt hc
        obtain ⟨q, hq, rfl⟩ := Option.map_eq_some_iff.1 hd
        rw [split_cut hc, if_pos hc, wadd h0 (by omega), ih _ _ _ q (by omega) hq (by omega) (by omega) (by omega) (by omega)]
        congr 1
        omega
      · rw [if_neg hc] at hd; cases hd

theorem refDep_ev (a : ByteArray) (ha : a.size ≤ 140737488351232) : Ev (fun k => drowseref04_Depth.f k a) (depV a) := by
  refine (refRight_ev a ha).bind ?_
  unfold depV
  by_cases h : rightB a = true
  · simp only [h, if_true]
    refine ⟨a.size + 2, fun k hk => ?_⟩
    cases hd : depth a with
    | none => unfold rightB measV at h; rw [hd] at h; cases h
    | some d =>
      show drowseref04_Depth.l0 k a 0 = _
      rw [depth_l a.size a 0 k d (Nat.le_refl _) hd (by omega) ha (by omega) hk]
      unfold measV
      rw [hd]
  · simp only [h]; exact Ev.now _

theorem refChan_ev (d : Int) (a : ByteArray) (ha : a.size ≤ 140737488351232) : Ev (fun k => drowseref04_Chan.f k d a) (chanV d a) := by
  have hj : Ev (fun k => drowseref04_Chan.j0 k d a (decide (d < 0 ∨ 2 < d))) (chanV d a) := by
    refine Ev.step (fun k => by rw [drowseref04_Chan.j0]) ?_
    unfold chanV
    by_cases hd : d < 0 ∨ 2 < d
    · simp only [hd, decide_true, if_true]; exact Ev.now _
    · simp only [hd, decide_false, Bool.false_eq_true, if_false]
      refine (refRight_ev a ha).bind ?_
      have key : ∀ b : Bool, Ev (fun k => drowseref04_Chan.j1 k d a b) (if b = false then
          (if d = 1 then (P1 ++ a, 0) else if d = 2 then (P2 ++ a, 0) else if pre a AR then ((P4 ++ a) ++ BR, 0) else (P3 ++ a, 0)) else (⟨#[]⟩, 61)) := by
        intro b
        refine Ev.step (fun k => by rw [drowseref04_Chan.j1]) ?_
        cases b with
        | true => simp only [if_true]; exact Ev.now _
        | false =>
          simp only [Bool.false_eq_true, if_false, if_true]
          by_cases h1 : d = 1
          · simp only [h1, if_true]
            refine Ev.congr (f := fun _ => some _) (fun k => ?_) (Ev.now _)
            rw [if_pos (by omega)]
          · simp only [h1, if_false]
            by_cases h2 : d = 2
            · simp only [h2, if_true]
              refine Ev.congr (f := fun _ => some _) (fun k => ?_) (Ev.now _)
              rw [if_pos (by omega)]
            · simp only [h2, if_false]
              refine Ev.congr (f := fun _ => some _) (fun k => ?_) (Ev.now _)
              rw [begins_eq]
              simp only [Option.bind_some]
              cases hp : pre a AR with
              | true =>
                simp only [if_true]
                have e6 : ((⟨#[99, 104, 97, 110, 32, 40]⟩ : ByteArray) ++ a).size = 6 + a.size := ByteArray.size_append
                rw [if_pos (by omega), if_pos (by omega)]
              | false =>
                simp only [Bool.false_eq_true, if_false]
                rw [if_pos (by omega)]
      by_cases hm : (measV 0 a).2 = true
      · have hr : rightB a = true := hm
        simp only [hr, if_true, hm, true_and]
        refine (refDep_ev a ha).bind ?_
        have e : depV a = (measV 0 a).1 := by unfold depV; rw [if_pos hr]
        rw [e]
        have := key ((measV 0 a).1 == 40)
        by_cases h40 : (measV 0 a).1 = 40
        · have hb : ((measV 0 a).1 == 40) = true := beq_iff_eq.2 h40
          rw [hb] at this
          rw [hb]
          simpa [h40] using this
        · have hb : ((measV 0 a).1 == 40) = false := beq_eq_false_iff_ne.2 h40
          rw [hb] at this
          rw [hb]
          simpa [h40] using this
      · have hr : rightB a = false := by simpa [rightB] using hm
        simp only [hm, hr]
        simpa using key true
  unfold drowseref04_Chan.f
  by_cases h0 : d < 0
  · simp only [h0, if_true]
    simpa [h0] using hj
  · simp only [h0, if_false]
    simpa [h0] using hj

theorem TypesReads : drowselaw04_TypesReads.Pure := by
  intro a d ha _
  refine Ev.rounds ?_
  refine (right_ev a ha).bind ?_
  refine (dep_ev a ha).bind ?_
  refine (chan_ev d a ha).bind ?_
  refine (split_ev a ha).bind ?_
  refine (refChan_ev d a ha).bind ?_
  refine (refSplit_ev a ha).bind ?_
  refine (refRight_ev a ha).bind ?_
  simp only [beq_self_eq_true, if_true]
  refine (refDep_ev a ha).bind ?_
  simp only [if_true]
  exact Ev.now _

end Go.Proofs.Ytddagoihchlihaa.Pure
