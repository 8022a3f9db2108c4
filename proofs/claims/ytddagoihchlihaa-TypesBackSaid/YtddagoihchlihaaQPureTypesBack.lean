/-
  The plain law of TypesBack: what the code's functions and the document's answer compute is one, for all texts of at most 140737488351232 bytes. No program and no memory here.
-/
import Derived.Test.YtddagoihchlihaaQTypesBackx3
namespace Go.Proofs.Ytddagoihchlihaa.Pure
open Go.RowKit Go.Proofs.Ytddagoihchlihaa.PTypesBack Go.Proofs.YtddagoihchlihaaW.PrintWords Go.Proofs.YtddagoihchlihaaW.PrintLast

theorem data_inj {a b : ByteArray} (h : a.data.toList = b.data.toList) : a = b := by
  obtain ⟨⟨x⟩⟩ := a
  obtain ⟨⟨y⟩⟩ := b
  simp only at h
  rw [h]
theorem toL (a : ByteArray) : a.toList = a.data.toList := ByteArray.toList_eq a
theorem sizeL (a : ByteArray) : a.size = a.data.toList.length := by
  rw [Array.length_toList]; rfl
theorem extL (s : ByteArray) (a b : Nat) : (s.extract a b).data.toList = (s.data.toList.drop a).take (b - a) := by
  obtain ⟨⟨l⟩⟩ := s
  simp [ByteArray.extract_mk]
theorem toL_inj {a b : ByteArray} : a.toList = b.toList ↔ a = b := by
  rw [toL, toL]
  exact ⟨data_inj, fun h => by rw [h]⟩

/-- begins -/
def pre (a p : ByteArray) : Bool := decide (p.size ≤ a.size) && ((a.extract 0 p.size).toList == p.toList)
def suf (a p : ByteArray) : Bool := decide (p.size ≤ a.size) && ((a.extract (a.size - p.size) a.size).toList == p.toList)

theorem pre_iff (a p : ByteArray) : pre a p = true ↔ p.data.toList <+: a.data.toList := by
  unfold pre
  rw [Bool.and_eq_true, decide_eq_true_eq, beq_iff_eq, toL, toL, extL, List.drop_zero, Nat.sub_zero, sizeL, sizeL]
  constructor
  · rintro ⟨_, h⟩
    exact ⟨_, by rw [← h, h]; exact (congrArg (· ++ List.drop p.data.toList.length a.data.toList) h.symm).trans (List.take_append_drop _ _)⟩
  · intro h
    exact ⟨h.length_le, (List.prefix_iff_eq_take.1 h).symm⟩

theorem hasPrefix_eq (a p : ByteArray) : strings_HasPrefix.f a p = some (pre a p) := by
  unfold strings_HasPrefix.f stringslite_HasPrefix.f pre
  by_cases h : p.size ≤ a.size
  · rw [if_pos (by omega), if_pos (by omega), if_pos (by omega)]
    simp [h]
  · rw [if_neg (by omega)]
    simp [h]

theorem cutPrefix_eq (a p : ByteArray) : strings_CutPrefix.f a p = some (if pre a p then (a.extract p.size a.size, true) else (a, false)) := by
  have h0 := hasPrefix_eq a p
  unfold strings_HasPrefix.f at h0
  unfold strings_CutPrefix.f stringslite_CutPrefix.f
  cases h1 : stringslite_HasPrefix.f a p with
  | none => rw [h1] at h0; simp at h0
  | some b =>
    rw [h1] at h0
    simp only [Option.bind_some, Option.some.injEq] at h0
    rw [← h0]
    cases b with
    | false => simp
    | true =>
      have hs : p.size ≤ a.size := by
        have := (Bool.and_eq_true _ _ ▸ (show pre a p = true from h0.symm) : decide (p.size ≤ a.size) = true ∧ _).1
        simpa using this
      simp only [Option.bind_some, if_true]
      rw [if_pos (by omega), if_pos (by omega)]
      simp

theorem wsub {m n : Nat} (h : n ≤ m) (hm : m ≤ 140737488355328) : wrap64 ((m : Int) - (n : Int)) = ((m - n : Nat) : Int) := by
  unfold wrap64; omega

theorem hasSuffix_eq (a p : ByteArray) (ha : a.size ≤ 140737488355328) : stringslite_HasSuffix.f a p = some (suf a p) := by
  unfold stringslite_HasSuffix.f suf
  by_cases h : p.size ≤ a.size
  · rw [if_pos (by omega), wsub h ha, if_pos (by omega), if_pos (by omega)]
    simp [h]
  · rw [if_neg (by omega)]
    simp [h]

theorem cutSuffix_eq (a p : ByteArray) (ha : a.size ≤ 140737488355328) : strings_CutSuffix.f a p = some (if suf a p then (a.extract 0 (a.size - p.size), true) else (a, false)) := by
  unfold strings_CutSuffix.f stringslite_CutSuffix.f
  rw [hasSuffix_eq a p ha]
  simp only [Option.bind_some]
  cases h1 : suf a p with
  | false => simp
  | true =>
    have hs : p.size ≤ a.size := by
      unfold suf at h1
      rw [Bool.and_eq_true, decide_eq_true_eq] at h1
      exact h1.1
    rw [if_pos rfl, wsub hs ha, if_pos (by omega), if_pos (by omega)]
    simp

abbrev P1 : ByteArray := ⟨#[99, 104, 97, 110, 60, 45, 32]⟩
abbrev P2 : ByteArray := ⟨#[60, 45, 99, 104, 97, 110, 32]⟩
abbrev P3 : ByteArray := ⟨#[99, 104, 97, 110, 32]⟩
abbrev BL : ByteArray := ⟨#[40]⟩
abbrev BR : ByteArray := ⟨#[41]⟩
abbrev AR : ByteArray := ⟨#[60, 45]⟩

/-- what types.cut answers -/
def cutV (a : ByteArray) : Int × ByteArray × Bool :=
  if pre a P1 then (1, a.extract 7 a.size, true)
  else if pre a P2 then (2, a.extract 7 a.size, true)
  else if pre a P3 then
    if pre (a.extract 5 a.size) BL then
      if suf ((a.extract 5 a.size).extract 1 (a.extract 5 a.size).size) BR then
        (0, ((a.extract 5 a.size).extract 1 (a.extract 5 a.size).size).extract 0 (((a.extract 5 a.size).extract 1 (a.extract 5 a.size).size).size - 1),
          pre (((a.extract 5 a.size).extract 1 (a.extract 5 a.size).size).extract 0 (((a.extract 5 a.size).extract 1 (a.extract 5 a.size).size).size - 1)) AR)
      else (0, (a.extract 5 a.size).extract 1 (a.extract 5 a.size).size, false)
    else (0, a.extract 5 a.size, !pre (a.extract 5 a.size) AR)
  else (0, ⟨#[]⟩, false)

theorem ext_size (a : ByteArray) (i j : Nat) (h1 : j ≤ a.size) : (a.extract i j).size = j - i := by
  rw [sizeL, extL, List.length_take, List.length_drop, ← sizeL]
  omega
theorem ext_le (a : ByteArray) (i j : Nat) : (a.extract i j).size ≤ a.size := by
  rw [sizeL, extL, List.length_take, List.length_drop, ← sizeL]
  omega

theorem cut_eq (a : ByteArray) (ha : a.size ≤ 140737488355328) : types_cut.f a = some (cutV a) := by
  unfold types_cut.f cutV
  rw [cutPrefix_eq]
  simp only [Option.bind_some]
  cases h1 : pre a P1 with
  | true => simp; rfl
  | false =>
    simp only [Bool.false_eq_true, if_false]
    rw [cutPrefix_eq]
    simp only [Option.bind_some]
    cases h2 : pre a P2 with
    | true => simp; rfl
    | false =>
      simp only [Bool.false_eq_true, if_false]
      rw [cutPrefix_eq]
      simp only [Option.bind_some]
      cases h3 : pre a P3 with
      | false => simp
      | true =>
        simp only [if_true]
        have e5 : (⟨#[99, 104, 97, 110, 32]⟩ : ByteArray).size = 5 := rfl
        rw [e5]
        have hs := ext_le a 5 a.size
        generalize a.extract 5 a.size = e at *
        rw [cutPrefix_eq]
        simp only [Option.bind_some]
        cases h4 : pre e BL with
        | false =>
          simp only [Bool.false_eq_true, if_false]
          rw [hasPrefix_eq]
          simp
        | true =>
          simp only [if_true]
          have e1 : (⟨#[40]⟩ : ByteArray).size = 1 := rfl
          rw [e1]
          have hs1 := ext_le e 1 e.size
          generalize e.extract 1 e.size = i at *
          rw [cutSuffix_eq _ _ (by omega)]
          simp only [Option.bind_some]
          cases h5 : suf i BR with
          | false => simp
          | true =>
            simp only [if_true]
            have e1' : (⟨#[41]⟩ : ByteArray).size = 1 := rfl
            rw [e1', hasPrefix_eq]
            simp

def plainB (a : ByteArray) : Bool :=
  a.toList == [105, 110, 116] || a.toList == [98, 111, 111, 108] || a.toList == [77, 117, 116, 101, 120] || a.toList == [87, 97, 105, 116, 71, 114, 111, 117, 112]

/-- how many channels stand within one another; none: it is no type -/
def dep : Nat → ByteArray → Option Nat
  | 0, _ => none
  | f + 1, a => if plainB a then some 0 else if (cutV a).2.2 then (dep f (cutV a).2.1).map (· + 1) else none

theorem pre_size {a p : ByteArray} (h : pre a p = true) : p.size ≤ a.size := by
  unfold pre at h
  rw [Bool.and_eq_true, decide_eq_true_eq] at h
  exact h.1

theorem cutV_lt {a : ByteArray} (h : (cutV a).2.2 = true) : (cutV a).2.1.size < a.size := by
  unfold cutV at *
  split
  · rename_i h1
    have := pre_size h1
    have e : P1.size = 7 := rfl
    show (a.extract 7 a.size).size < a.size
    rw [ext_size _ _ _ (Nat.le_refl _)]
    omega
  · rename_i h1
    rw [if_neg h1] at h
    split
    · rename_i h2
      have := pre_size h2
      have e : P2.size = 7 := rfl
      show (a.extract 7 a.size).size < a.size
      rw [ext_size _ _ _ (Nat.le_refl _)]
      omega
    · rename_i h2
      rw [if_neg h2] at h
      split
      · rename_i h3
        rw [if_pos h3] at h
        have hp := pre_size h3
        have e : P3.size = 5 := rfl
        have hs := ext_size a 5 a.size (Nat.le_refl _)
        generalize a.extract 5 a.size = e5 at *
        split
        · have hs1 := ext_le e5 1 e5.size
          generalize e5.extract 1 e5.size = i at *
          split
          · show (i.extract 0 (i.size - 1)).size < a.size
            have := ext_le i 0 (i.size - 1)
            omega
          · show i.size < a.size
            omega
        · show e5.size < a.size
          omega
      · rename_i h3
        rw [if_neg h3] at h
        cases h

theorem dep_more : ∀ (f g : Nat) (a : ByteArray), a.size < f → a.size < g → dep f a = dep g a
  | 0, _, _, h, _ => by omega
  | _ + 1, 0, _, _, h => by omega
  | f + 1, g + 1, a, hf, hg => by
    unfold dep
    by_cases hp : plainB a = true
    · rw [if_pos hp, if_pos hp]
    · rw [if_neg hp, if_neg hp]
      by_cases hc : (cutV a).2.2 = true
      · rw [if_pos hc, if_pos hc]
        have := cutV_lt hc
        rw [dep_more f g _ (by omega) (by omega)]
      · rw [if_neg hc, if_neg hc]

def depth (a : ByteArray) : Option Nat := dep (a.size + 1) a
theorem depth_eq (a : ByteArray) : depth a = if plainB a then some 0 else if (cutV a).2.2 then (depth (cutV a).2.1).map (· + 1) else none := by
  show dep (a.size + 1) a = _
  unfold dep
  by_cases hp : plainB a = true
  · rw [if_pos hp, if_pos hp]
  · rw [if_neg hp, if_neg hp]
    by_cases hc : (cutV a).2.2 = true
    · rw [if_pos hc, if_pos hc]
      have := cutV_lt hc
      rw [dep_more a.size ((cutV a).2.1.size + 1) _ (by omega) (by omega)]
      rfl
    · rw [if_neg hc, if_neg hc]

def measV (n : Int) (a : ByteArray) : Int × Bool :=
  match depth a with
  | some d => (n + d, decide (n + d ≤ 40))
  | none => (0, false)

theorem wadd {n : Int} (h0 : 0 ≤ n) (h : n ≤ 140737488355328) : wrap64 (n + 1) = n + 1 := by
  unfold wrap64; omega

theorem meas_l : ∀ (m : Nat) (a : ByteArray) (n : Int) (k : Nat), a.size ≤ m → 0 ≤ n → n + a.size ≤ 140737488355328 → 2 * m + 2 ≤ k → types_measure.l0 k a n = some (measV n a) := by
  intro m
  induction m with
  | zero =>
    intro a n k ha h0 hb hk
    obtain ⟨k, rfl⟩ : ∃ j, k = j + 2 := ⟨k - 2, by omega⟩
    have hj : types_measure.l0 (k + 2) a n = types_measure.j1 (k + 1) a n (plainB a) := by
      simp only [types_measure.l0]
      unfold plainB
      split
      · rename_i h; simp [h]
      · split
        · rename_i h; simp [h]
        · split
          · rename_i h; simp [h]
          · rename_i q1 q2 q3
            have b1 := beq_eq_false_iff_ne.2 q1
            have b2 := beq_eq_false_iff_ne.2 q2
            have b3 := beq_eq_false_iff_ne.2 q3
            rw [b1, b2, b3]
            rfl
    rw [hj]
    simp only [types_measure.j1]
    unfold measV
    rw [depth_eq]
    by_cases hp : plainB a = true
    · rw [if_pos hp, if_pos hp]; simp
    · rw [if_neg hp, if_neg hp, cut_eq a (by omega)]
      simp only [Option.bind_some]
      by_cases hc : (cutV a).2.2 = true
      · have := cutV_lt hc; omega
      · rw [if_neg hc, if_neg hc]
  | succ m ih =>
    intro a n k ha h0 hb hk
    obtain ⟨k, rfl⟩ : ∃ j, k = j + 2 := ⟨k - 2, by omega⟩
    have hj : types_measure.l0 (k + 2) a n = types_measure.j1 (k + 1) a n (plainB a) := by
      simp only [types_measure.l0]
      unfold plainB
      split
      · rename_i h; simp [h]
      · split
        · rename_i h; simp [h]
        · split
          · rename_i h; simp [h]
          · rename_i q1 q2 q3
            have b1 := beq_eq_false_iff_ne.2 q1
            have b2 := beq_eq_false_iff_ne.2 q2
            have b3 := beq_eq_false_iff_ne.2 q3
            rw [b1, b2, b3]
            rfl
    rw [hj]
    simp only [types_measure.j1]
    unfold measV
    rw [depth_eq]
    by_cases hp : plainB a = true
    · rw [if_pos hp, if_pos hp]; simp
    · rw [if_neg hp, if_neg hp, cut_eq a (by omega)]
      simp only [Option.bind_some]
      by_cases hc : (cutV a).2.2 = true
      · have := cutV_lt hc
        rw [if_pos hc, if_pos hc, wadd h0 (by omega), ih _ _ _ (by omega) (by omega) (by omega) (by omega)]
        unfold measV
        cases depth (cutV a).2.1 with
        | none => rfl
        | some d => simp; omega
      · rw [if_neg hc, if_neg hc]

theorem meas_ev (a : ByteArray) (ha : a.size ≤ 140737488355328) : Ev (fun k => types_measure.f k a) (measV 0 a) :=
  ⟨2 * a.size + 2, fun k hk => by
    show types_measure.l0 k a 0 = _
    exact meas_l a.size a 0 k (Nat.le_refl _) (by omega) (by omega) hk⟩

def rightB (a : ByteArray) : Bool := (measV 0 a).2
theorem right_ev (a : ByteArray) (ha : a.size ≤ 140737488355328) : Ev (fun k => types_Right.f k a) (rightB a) :=
  (meas_ev a ha).bind (Ev.now _)
def splitA (a : ByteArray) : Int × ByteArray × Bool := if rightB a then cutV a else (0, ⟨#[]⟩, false)
theorem split_ev (a : ByteArray) (ha : a.size ≤ 140737488355328) : Ev (fun k => types_Split.f k a) (splitA a) := by
  refine (right_ev a ha).bind (Ev.congr (f := fun _ => some (splitA a)) (fun k => ?_) (Ev.now _))
  unfold splitA
  by_cases h : rightB a = true
  · rw [if_pos h, if_pos h, cut_eq a ha]; rfl
  · rw [if_neg h, if_neg h]

theorem bt_list (s : ByteArray) (i : Int) : bt s i = ((s.data.toList.getD i.toNat 0).toNat : Int) := by
  unfold bt
  split
  · rename_i h
    have h' : i.toNat < s.data.toList.length := by rw [← sizeL]; exact h
    simp [List.getD_eq_getElem?_getD, List.getElem?_eq_getElem h']
    rfl
  · rename_i h
    have h' : s.data.toList.length ≤ i.toNat := by rw [← sizeL]; omega
    simp [List.getD_eq_getElem?_getD, List.getElem?_eq_none h']

theorem u8_eq (c : UInt8) (n : Nat) (h : n < 256) : ((c.toNat : Int) = (n : Int)) ↔ c = n.toUInt8 := by
  constructor
  · intro e
    have e' : c.toNat = n := by omega
    apply UInt8.toNat_inj.1
    rw [e']
    simp; omega
  · rintro rfl
    simp; omega

theorem pre_BL (e : ByteArray) : pre e BL = true ↔ 1 ≤ e.size ∧ bt e 0 = 40 := by
  rw [pre_iff, bt_list, sizeL]
  show [40] <+: _ ↔ _
  generalize e.data.toList = l
  cases l with
  | nil => simp
  | cons x t =>
    rw [List.cons_prefix_cons]
    simp only [List.nil_prefix, and_true, List.length_cons]
    have h := u8_eq x 40 (by omega)
    constructor
    · intro h'
      refine ⟨by omega, ?_⟩
      rw [← h']; rfl
    · rintro ⟨_, h'⟩
      exact (h.1 (by simpa using h')).symm

theorem suf_BR (i : ByteArray) : suf i BR = true ↔ 1 ≤ i.size ∧ bt i ((i.size : Int) - 1) = 41 := by
  unfold suf
  rw [Bool.and_eq_true, decide_eq_true_eq, beq_iff_eq, toL, toL, extL, bt_list]
  show 1 ≤ i.size ∧ _ ↔ _
  refine and_congr_right fun h1 => ?_
  have e1 : BR.size = 1 := rfl
  rw [e1, show ((i.size : Int) - 1).toNat = i.size - 1 by omega, show i.size - (i.size - 1) = 1 by omega]
  have hl : i.size - 1 < i.data.toList.length := by rw [← sizeL]; omega
  generalize i.size - 1 = j at *
  rw [List.drop_eq_getElem_cons hl, List.take_succ_cons, List.take_zero, List.getD_eq_getElem?_getD, List.getElem?_eq_getElem hl, Option.getD_some]
  have h := u8_eq i.data.toList[j] 41 (by omega)
  show [i.data.toList[j]] = [41] ↔ _
  rw [List.cons.injEq]
  constructor
  · rintro ⟨h', _⟩
    rw [h']; rfl
  · intro h'
    exact ⟨h.1 (by simpa using h'), rfl⟩

theorem bt_ext (e : ByteArray) (j : Int) (h0 : 0 ≤ j) (h1 : j + 1 < e.size) : bt (e.extract 1 e.size) j = bt e (j + 1) := by
  rw [bt_list, bt_list, extL]
  have e1 : (j + 1).toNat = 1 + j.toNat := by omega
  rw [e1, List.getD_eq_getElem?_getD, List.getD_eq_getElem?_getD, List.getElem?_take, if_pos (by omega), List.getElem?_drop]

theorem ext_ext (e : ByteArray) : (e.extract 1 e.size).extract 0 ((e.extract 1 e.size).size - 1) = e.extract 1 (e.size - 1) := by
  apply data_inj
  rw [extL, extL, extL, ext_size _ _ _ (Nat.le_refl _), List.drop_zero, List.take_take]
  congr 1
  omega

/-- what the document's split answers -/
def splitV (a : ByteArray) : Int × ByteArray × Bool :=
  if pre a P3 then
    if 2 ≤ (a.extract 5 a.size).size ∧ bt (a.extract 5 a.size) 0 = 40 ∧ bt (a.extract 5 a.size) (((a.extract 5 a.size).size : Int) - 1) = 41 then
      (0, (a.extract 5 a.size).extract 1 ((a.extract 5 a.size).size - 1), pre ((a.extract 5 a.size).extract 1 ((a.extract 5 a.size).size - 1)) AR)
    else (0, a.extract 5 a.size, !pre (a.extract 5 a.size) AR)
  else if pre a P1 then (1, a.extract 7 a.size, true)
  else if pre a P2 then (2, a.extract 7 a.size, true)
  else (0, ⟨#[]⟩, false)

theorem apart {a p q : ByteArray} (hp : pre a p = true) (hq : pre a q = true) (hl : p.size ≤ q.size) : p.data.toList <+: q.data.toList := by
  rw [pre_iff] at hp hq
  rw [sizeL, sizeL] at hl
  exact List.prefix_of_prefix_length_le hp hq hl
theorem not13 {a : ByteArray} (h1 : pre a P1 = true) : pre a P3 = false := by
  cases h : pre a P3 with
  | false => rfl
  | true => exact absurd (apart h h1 (by decide)) (by decide)
theorem not23 {a : ByteArray} (h1 : pre a P2 = true) : pre a P3 = false := by
  cases h : pre a P3 with
  | false => rfl
  | true => exact absurd (apart h h1 (by decide)) (by decide)

/-- where a first word is one of these, it is no other -/
theorem bl_cases {a : ByteArray} (h : pre a BL = true) : pre a P1 = false ∧ pre a P2 = false ∧ pre a P3 = false := by
  refine ⟨?_, ?_, ?_⟩
  · cases h1 : pre a P1 with
    | false => rfl
    | true => exact absurd (apart h h1 (by decide)) (by decide)
  · cases h1 : pre a P2 with
    | false => rfl
    | true => exact absurd (apart h h1 (by decide)) (by decide)
  · cases h1 : pre a P3 with
    | false => rfl
    | true => exact absurd (apart h h1 (by decide)) (by decide)

theorem split_cut {a : ByteArray} (h : (cutV a).2.2 = true) : splitV a = cutV a := by
  unfold cutV at h ⊢
  unfold splitV
  cases h1 : pre a P1 with
  | true => simp [not13 h1]
  | false =>
    cases h2 : pre a P2 with
    | true => simp [not23 h2]
    | false =>
      rw [h1, h2] at h
      simp only [Bool.false_eq_true, if_false] at h ⊢
      cases h3 : pre a P3 with
      | false => simp
      | true =>
        rw [h3] at h
        simp only [if_true] at h ⊢
        generalize a.extract 5 a.size = e at *
        cases h4 : pre e BL with
        | false =>
          rw [if_neg]
          · simp
          · rintro ⟨g1, g2, _⟩
            have := (pre_BL e).2 ⟨by omega, g2⟩
            rw [h4] at this
            cases this
        | true =>
          rw [h4] at h
          simp only [if_true] at h ⊢
          obtain ⟨g1, g2⟩ := (pre_BL e).1 h4
          cases h5 : suf (e.extract 1 e.size) BR with
          | false => rw [h5] at h; simp at h
          | true =>
            simp only [if_true]
            obtain ⟨g3, g4⟩ := (suf_BR _).1 h5
            have gs := ext_size e 1 e.size (Nat.le_refl _)
            rw [bt_ext e _ (by omega) (by omega)] at g4
            rw [if_pos ⟨by omega, g2, by rw [← g4]; congr 1; omega⟩, ext_ext]

theorem split_not {a : ByteArray} (h : (cutV a).2.2 = false) (hs : (splitV a).2.2 = true) : pre (splitV a).2.1 BL = true := by
  unfold cutV at h
  unfold splitV at hs ⊢
  cases h1 : pre a P1 with
  | true => rw [h1] at h; simp at h
  | false =>
    cases h2 : pre a P2 with
    | true => rw [h1, h2] at h; simp at h
    | false =>
      cases h3 : pre a P3 with
      | false => rw [h1, h2, h3] at hs; simp at hs
      | true =>
        rw [h1, h2, h3] at h
        rw [h3] at hs
        simp only [Bool.false_eq_true, if_false, if_true] at h hs ⊢
        generalize a.extract 5 a.size = e at *
        cases h4 : pre e BL with
        | false =>
          rw [h4] at h
          simp only [Bool.false_eq_true, if_false] at h
          rw [if_neg] at hs
          · rw [h] at hs; cases hs
          · rintro ⟨g1, g2, _⟩
            have := (pre_BL e).2 ⟨by omega, g2⟩
            rw [h4] at this
            cases this
        | true =>
          rw [h4] at h
          simp only [if_true] at h
          obtain ⟨g1, g2⟩ := (pre_BL e).1 h4
          by_cases hc : 2 ≤ e.size ∧ bt e 0 = 40 ∧ bt e ((e.size : Int) - 1) = 41
          · have gs := ext_size e 1 e.size (Nat.le_refl _)
            have h5 : suf (e.extract 1 e.size) BR = true := by
              rw [suf_BR, bt_ext e _ (by omega) (by omega)]
              refine ⟨by omega, ?_⟩
              rw [← hc.2.2]; congr 1; omega
            rw [h5] at h
            simp only [if_true] at h
            rw [ext_ext] at h
            rw [if_pos hc] at hs
            simp only at hs
            rw [h] at hs
            cases hs
          · rw [if_neg hc]
            exact h4

theorem bl_split {a : ByteArray} (h : pre a BL = true) : (splitV a).2.2 = false := by
  obtain ⟨h1, h2, h3⟩ := bl_cases h
  unfold splitV
  simp [h1, h2, h3]

theorem plain_cases {a : ByteArray} (h : plainB a = true) : a = ⟨#[105, 110, 116]⟩ ∨ a = ⟨#[98, 111, 111, 108]⟩ ∨ a = ⟨#[77, 117, 116, 101, 120]⟩ ∨ a = ⟨#[87, 97, 105, 116, 71, 114, 111, 117, 112]⟩ := by
  unfold plainB at h
  simp only [Bool.or_eq_true, beq_iff_eq] at h
  have t : ∀ l : List UInt8, a.toList = l → a = ⟨l.toArray⟩ := fun l e => data_inj (by rw [← toL, e])
  rcases h with ((h | h) | h) | h
  · exact .inl (t _ h)
  · exact .inr (.inl (t _ h))
  · exact .inr (.inr (.inl (t _ h)))
  · exact .inr (.inr (.inr (t _ h)))

theorem no_pre {a p : ByteArray} (h : ¬ p.data.toList <+: a.data.toList) : pre a p = false := by
  cases h' : pre a p with
  | false => rfl
  | true => exact absurd ((pre_iff _ _).1 h') h

theorem plain_none {a : ByteArray} (h : plainB a = true) : splitV a = (0, ⟨#[]⟩, false) ∧ cutV a = (0, ⟨#[]⟩, false) ∧ pre a BL = false := by
  have key : pre a P1 = false ∧ pre a P2 = false ∧ pre a P3 = false ∧ pre a BL = false := by
    rcases plain_cases h with rfl | rfl | rfl | rfl <;> exact ⟨no_pre (by decide), no_pre (by decide), no_pre (by decide), no_pre (by decide)⟩
  obtain ⟨h1, h2, h3, h4⟩ := key
  unfold splitV cutV
  simp [h1, h2, h3, h4]

theorem splitV_lt {a : ByteArray} (h : (splitV a).2.2 = true) : (splitV a).2.1.size < a.size := by
  by_cases hc : (cutV a).2.2 = true
  · rw [split_cut hc]; exact cutV_lt hc
  · unfold splitV at h ⊢
    have h1 : pre a P1 = false := by
      cases g : pre a P1 with
      | false => rfl
      | true => unfold cutV at hc; simp [g] at hc
    have h2 : pre a P2 = false := by
      cases g : pre a P2 with
      | false => rfl
      | true => unfold cutV at hc; simp [g, h1] at hc
    cases h3 : pre a P3 with
    | false => rw [h1, h2, h3] at h; simp at h
    | true =>
      have hp := pre_size h3
      have e : P3.size = 5 := rfl
      have hs := ext_size a 5 a.size (Nat.le_refl _)
      simp only [if_true]
      generalize a.extract 5 a.size = e5 at *
      split
      · show (e5.extract 1 (e5.size - 1)).size < a.size
        have := ext_le e5 1 (e5.size - 1)
        omega
      · show e5.size < a.size
        omega

/-- the document's Right, from the round n on -/
def rightV (n : Int) (a : ByteArray) : Bool := (measV n a).2

theorem rightV_eq (n : Int) (a : ByteArray) (h : n ≤ 40) :
    rightV n a = if plainB a then true else if (splitV a).2.2 then rightV (n + 1) (splitV a).2.1 else false := by
  unfold rightV measV
  rw [depth_eq]
  by_cases hp : plainB a = true
  · rw [if_pos hp, if_pos hp]; simp; omega
  · rw [if_neg hp, if_neg hp]
    by_cases hc : (cutV a).2.2 = true
    · rw [if_pos hc, split_cut hc, if_pos hc]
      cases depth (cutV a).2.1 with
      | none => rfl
      | some d => simp; omega
    · rw [if_neg hc]
      by_cases hs : (splitV a).2.2 = true
      · rw [if_pos hs]
        have hb := split_not (by simpa using hc) hs
        have hb2 := bl_split hb
        rw [depth_eq]
        have hp2 : ¬ plainB (splitV a).2.1 = true := fun g => by rw [(plain_none g).2.2] at hb; cases hb
        have hc2 : ¬ (cutV (splitV a).2.1).2.2 = true := fun g => by rw [split_cut g, g] at hb2; cases hb2
        rw [if_neg hp2, if_neg hc2]
      · rw [if_neg hs]

theorem right_cut {a : ByteArray} (h : rightB a = true) : splitV a = cutV a := by
  by_cases hp : plainB a = true
  · rw [(plain_none hp).1, (plain_none hp).2.1]
  · have hc : (cutV a).2.2 = true := by
      unfold rightB measV at h
      rw [depth_eq, if_neg hp] at h
      by_cases hc : (cutV a).2.2 = true
      · exact hc
      · rw [if_neg hc] at h; cases h
    exact split_cut hc


abbrev P4 : ByteArray := ⟨#[99, 104, 97, 110, 32, 40]⟩
/-- a channel's type of a direction and an element, and the error -/
def chanV (d : Int) (a : ByteArray) : ByteArray × Int :=
  if d < 0 ∨ 2 < d then (⟨#[]⟩, 1)
  else if (measV 0 a).2 = true ∧ (measV 0 a).1 ≠ 40 then
    if d = 1 then (P1 ++ a, 0) else if d = 2 then (P2 ++ a, 0)
    else if pre a AR then ((P4 ++ a) ++ BR, 0) else (P3 ++ a, 0)
  else (⟨#[]⟩, 61)

theorem chan_ev (d : Int) (a : ByteArray) (ha : a.size ≤ 140737488355328) : Ev (fun k => types_Chan.f k d a) (chanV d a) := by
  have hj : Ev (fun k => types_Chan.j0 k d a (decide (d < 0 ∨ 2 < d))) (chanV d a) := by
    refine Ev.step (fun k => by rw [types_Chan.j0]) ?_
    unfold chanV
    by_cases hd : d < 0 ∨ 2 < d
    · simp only [hd, decide_true, if_true]; exact Ev.now _
    · simp only [hd, decide_false, Bool.false_eq_true, if_false]
      refine (meas_ev a ha).bind ?_
      have key : ∀ b : Bool, Ev (fun k => types_Chan.j1 k d a b) (if b = false then
          (if d = 1 then (P1 ++ a, 0) else if d = 2 then (P2 ++ a, 0) else if pre a AR then ((P4 ++ a) ++ BR, 0) else (P3 ++ a, 0)) else (⟨#[]⟩, 61)) := by
        intro b
        refine Ev.step (fun k => by rw [types_Chan.j1]) ?_
        cases b with
        | true => simp only [if_true]; exact Ev.now _
        | false =>
          simp only [Bool.false_eq_true, if_false, if_true]
          by_cases h1 : d = 1
          · simp only [h1, if_true]
            refine Ev.congr (f := fun _ => some _) (fun k => ?_) (Ev.now _)
            rw [if_pos (by omega)]
          · simp only [h1, if_false]
            by_cases h2 : d = 2
            · simp only [h2, if_true]
              refine Ev.congr (f := fun _ => some _) (fun k => ?_) (Ev.now _)
              rw [if_pos (by omega)]
            · simp only [h2, if_false]
              refine Ev.congr (f := fun _ => some _) (fun k => ?_) (Ev.now _)
              rw [hasPrefix_eq]
              simp only [Option.bind_some]
              cases hp : pre a AR with
              | true =>
                simp only [if_true]
                have e6 : ((⟨#[99, 104, 97, 110, 32, 40]⟩ : ByteArray) ++ a).size = 6 + a.size := ByteArray.size_append
                rw [if_pos (by omega), if_pos (by omega)]
              | false =>
                simp only [Bool.false_eq_true, if_false]
                rw [if_pos (by omega)]
      by_cases hm : (measV 0 a).2 = true
      · simp only [hm, if_true, true_and]
        have := key ((measV 0 a).1 == 40)
        by_cases h40 : (measV 0 a).1 = 40
        · have hb : ((measV 0 a).1 == 40) = true := beq_iff_eq.2 h40
          rw [hb] at this
          rw [hb]
          simpa [h40] using this
        · have hb : ((measV 0 a).1 == 40) = false := beq_eq_false_iff_ne.2 h40
          rw [hb] at this
          rw [hb]
          simpa [h40] using this
      · simp only [hm]
        simpa using key true
  unfold types_Chan.f
  by_cases h0 : d < 0
  · simp only [h0, if_true]
    simpa [h0] using hj
  · simp only [h0, if_false]
    simpa [h0] using hj

def depV (a : ByteArray) : Int := if rightB a = true then (measV 0 a).1 else 0
theorem dep_ev (a : ByteArray) (ha : a.size ≤ 140737488355328) : Ev (fun k => types_Depth.f k a) (depV a) := by
  refine (meas_ev a ha).bind (Ev.congr (f := fun _ => some (depV a)) (fun k => ?_) (Ev.now _))
  unfold depV rightB
  split <;> rfl

def sendsV (a : ByteArray) : Bool := if (splitA a).2.2 = true then (splitA a).1 != 2 else false
def recvsV (a : ByteArray) : Bool := if (splitA a).2.2 = true then (splitA a).1 != 1 else false
theorem sends_ev (a : ByteArray) (ha : a.size ≤ 140737488355328) : Ev (fun k => types_Sends.f k a) (sendsV a) := by
  refine (split_ev a ha).bind (Ev.congr (f := fun _ => some (sendsV a)) (fun k => ?_) (Ev.now _))
  unfold sendsV; split <;> rfl
theorem recvs_ev (a : ByteArray) (ha : a.size ≤ 140737488355328) : Ev (fun k => types_Receives.f k a) (recvsV a) := by
  refine (split_ev a ha).bind (Ev.congr (f := fun _ => some (recvsV a)) (fun k => ?_) (Ev.now _))
  unfold recvsV; split <;> rfl
/-- from a, to b -/
def asgV (a b : ByteArray) : Bool :=
  if rightB b = true then
    if a.toList = b.toList then true
    else if a.toList = [110, 105, 108] then
      if (splitA b).2.2 = true then true else if b.toList = [77, 117, 116, 101, 120] then true else b.toList == [87, 97, 105, 116, 71, 114, 111, 117, 112]
    else if (splitA b).2.2 = true then
      if (splitA a).2.2 = true then
        if (splitA a).1 = 0 then if (splitA b).1 = 0 then false else (splitA a).2.1.toList == (splitA b).2.1.toList
        else false
      else false
    else false
  else false

theorem asg_ev (a b : ByteArray) (ha : a.size ≤ 140737488355328) (hb : b.size ≤ 140737488355328) : Ev (fun k => types_Assignable.f k a b) (asgV a b) := by
  refine (right_ev b hb).bind ?_
  unfold asgV
  by_cases h : rightB b = true
  · simp only [h, if_true]
    refine (split_ev b hb).bind ?_
    by_cases h1 : a.toList = b.toList
    · simp only [h1, if_true]; exact Ev.now _
    · simp only [h1, if_false]
      by_cases h2 : a.toList = [110, 105, 108]
      · simp only [h2, if_true]
        refine Ev.congr (f := fun _ => some _) (fun k => ?_) (Ev.now _)
        split
        · rfl
        · split <;> rfl
      · simp only [h2, if_false]
        refine (split_ev a ha).bind ?_
        refine Ev.congr (f := fun _ => some _) (fun k => ?_) (Ev.now _)
        split
        · split
          · split
            · split <;> rfl
            · rfl
          · rfl
        · rfl
  · simp only [h]; exact Ev.now _


theorem appL (a b : ByteArray) : (a ++ b).data.toList = a.data.toList ++ b.data.toList := by
  rw [ByteArray.data_append, Array.toList_append]
theorem app_size (a b : ByteArray) : (a ++ b).size = a.size + b.size := ByteArray.size_append
theorem pre_app (p a : ByteArray) : pre (p ++ a) p = true := by
  rw [pre_iff, appL]; exact List.prefix_append _ _
theorem ext_app (p a : ByteArray) (n : Nat) (hn : p.size = n) : (p ++ a).extract n (p ++ a).size = a := by
  apply data_inj
  rw [extL, appL, app_size, ← hn, sizeL p, List.drop_left, sizeL a, List.take_of_length_le (by omega)]
theorem pre_no {a p q : ByteArray} (hp : pre a p = true) (hpq : ¬ p.data.toList <+: q.data.toList) (hqp : ¬ q.data.toList <+: p.data.toList) : pre a q = false := by
  cases h : pre a q with
  | false => rfl
  | true =>
    rcases Nat.le_total p.size q.size with hl | hl
    · exact absurd (apart hp h hl) hpq
    · exact absurd (apart h hp hl) hqp

theorem right_no_bl {a : ByteArray} (h : rightB a = true) : pre a BL = false := by
  cases hb : pre a BL with
  | false => rfl
  | true =>
    by_cases hp : plainB a = true
    · rw [(plain_none hp).2.2] at hb; cases hb
    · obtain ⟨h1, h2, h3⟩ := bl_cases hb
      unfold rightB measV at h
      rw [depth_eq, if_neg hp] at h
      unfold cutV at h
      simp [h1, h2, h3] at h

/-- a channel's type is taken apart into what it was made of -/
theorem cut_chan (d : Int) (a : ByteArray) (hr : rightB a = true) (h0 : 0 ≤ d) (h2 : d ≤ 2) (hn : (measV 0 a).1 ≠ 40) : cutV (chanV d a).1 = (d, a, true) := by
  have hm : (measV 0 a).2 = true := hr
  unfold chanV
  rw [if_neg (by omega), if_pos ⟨hm, hn⟩]
  by_cases e1 : d = 1
  · rw [if_pos e1]
    show cutV (P1 ++ a) = _
    unfold cutV
    rw [if_pos (pre_app P1 a), ext_app P1 a 7 rfl, e1]
  · rw [if_neg e1]
    by_cases e2 : d = 2
    · rw [if_pos e2]
      show cutV (P2 ++ a) = _
      unfold cutV
      rw [if_neg (by rw [pre_no (pre_app P2 a) (q := P1) (by decide) (by decide)]; decide), if_pos (pre_app P2 a), ext_app P2 a 7 rfl, e2]
    · rw [if_neg e2]
      have e0 : d = 0 := by omega
      subst e0
      cases ha : pre a AR with
      | false =>
        simp only [Bool.false_eq_true, if_false]
        unfold cutV
        rw [if_neg (by rw [pre_no (pre_app P3 a) (q := P1) (by decide) (by decide)]; decide), if_neg (by rw [pre_no (pre_app P3 a) (q := P2) (by decide) (by decide)]; decide),
          if_pos (pre_app P3 a), ext_app P3 a 5 rfl, if_neg (by rw [right_no_bl hr]; decide), ha]
        rfl
      | true =>
        simp only [if_true]
        have e4 : (P4 ++ a) ++ BR = P3 ++ (BL ++ (a ++ BR)) := by
          apply data_inj
          rw [appL, appL, appL, appL, appL]
          rfl
        rw [e4]
        unfold cutV
        rw [if_neg (by rw [pre_no (pre_app P3 _) (q := P1) (by decide) (by decide)]; decide), if_neg (by rw [pre_no (pre_app P3 _) (q := P2) (by decide) (by decide)]; decide),
          if_pos (pre_app P3 _), ext_app P3 _ 5 rfl, if_pos (pre_app BL _), ext_app BL _ 1 rfl]
        have es : (a ++ BR).size - 1 = a.size := by rw [app_size]; rfl
        have ee : (a ++ BR).extract 0 a.size = a := by
          apply data_inj
          rw [extL, appL, List.drop_zero, Nat.sub_zero, sizeL, List.take_left]
        have hsuf : suf (a ++ BR) BR = true := by
          unfold suf
          rw [Bool.and_eq_true, decide_eq_true_eq, beq_iff_eq, toL, toL, extL]
          have eb : BR.size = 1 := rfl
          refine ⟨by rw [app_size]; omega, ?_⟩
          rw [eb, es, appL, sizeL a, List.drop_left, app_size, List.take_of_length_le]
          rw [eb, sizeL a]
          show 1 ≤ _
          omega
        rw [if_pos hsuf, es, ee, ha]

theorem depth_plain {a : ByteArray} (h : plainB a = true) : depth a = some 0 := by rw [depth_eq, if_pos h]

theorem chan_pre (d : Int) (a : ByteArray) (hr : rightB a = true) (h0 : 0 ≤ d) (h2 : d ≤ 2) (hn : (measV 0 a).1 ≠ 40) : plainB (chanV d a).1 = false := by
  cases h : plainB (chanV d a).1 with
  | false => rfl
  | true =>
    have := (plain_none h).2.1
    rw [cut_chan d a hr h0 h2 hn] at this
    cases congrArg (fun x => x.2.2) this

theorem right_some {a : ByteArray} (hr : rightB a = true) : ∃ n : Nat, depth a = some n ∧ n ≤ 40 ∧ measV 0 a = ((n : Int), true) := by
  unfold rightB measV at hr
  cases h : depth a with
  | none => rw [h] at hr; cases hr
  | some n =>
    rw [h] at hr
    simp only [decide_eq_true_eq] at hr
    refine ⟨n, rfl, by omega, ?_⟩
    unfold measV
    rw [h]
    simp only [Int.zero_add, Prod.mk.injEq, decide_eq_true_eq, true_and]
    omega

theorem meas_chan (d : Int) (a : ByteArray) (hr : rightB a = true) (h0 : 0 ≤ d) (h2 : d ≤ 2) (hn : (measV 0 a).1 ≠ 40) :
    measV 0 (chanV d a).1 = ((measV 0 a).1 + 1, true) := by
  obtain ⟨n, hd, h40, hm⟩ := right_some hr
  have hc := cut_chan d a hr h0 h2 hn
  have hp := chan_pre d a hr h0 h2 hn
  have hdd : depth (chanV d a).1 = some (n + 1) := by
    rw [depth_eq, hp, hc]
    simp [hd]
  rw [hm] at hn ⊢
  simp only at hn
  unfold measV
  rw [hdd]
  simp
  omega

theorem right_chan (d : Int) (a : ByteArray) (hr : rightB a = true) (h0 : 0 ≤ d) (h2 : d ≤ 2) (hn : (measV 0 a).1 ≠ 40) : rightB (chanV d a).1 = true := by
  unfold rightB
  rw [meas_chan d a hr h0 h2 hn]

theorem split_chan (d : Int) (a : ByteArray) (hr : rightB a = true) (h0 : 0 ≤ d) (h2 : d ≤ 2) (hn : (measV 0 a).1 ≠ 40) : splitA (chanV d a).1 = (d, a, true) := by
  unfold splitA
  rw [right_chan d a hr h0 h2 hn, if_pos rfl, cut_chan d a hr h0 h2 hn]

theorem chan_ok (d : Int) (a : ByteArray) : (chanV d a).2 = 0 ↔ (0 ≤ d ∧ d ≤ 2 ∧ rightB a = true ∧ (measV 0 a).1 ≠ 40) := by
  unfold chanV
  by_cases h : d < 0 ∨ 2 < d
  · rw [if_pos h]
    constructor
    · intro e; cases e
    · rintro ⟨h1, h2, _⟩; omega
  · rw [if_neg h]
    by_cases hm : (measV 0 a).2 = true ∧ (measV 0 a).1 ≠ 40
    · rw [if_pos hm]
      constructor
      · intro _
        exact ⟨by omega, by omega, hm.1, hm.2⟩
      · intro _
        split
        · rfl
        · split
          · rfl
          · split <;> rfl
    · rw [if_neg hm]
      constructor
      · intro e; cases e
      · rintro ⟨_, _, h3, h4⟩
        exact absurd ⟨h3, h4⟩ hm

theorem chan_size (d : Int) (a : ByteArray) : (chanV d a).1.size ≤ a.size + 7 := by
  unfold chanV
  have s1 : P1.size = 7 := rfl
  have s2 : P2.size = 7 := rfl
  have s3 : P3.size = 5 := rfl
  have s4 : P4.size = 6 := rfl
  have s5 : BR.size = 1 := rfl
  have s0 : (⟨#[]⟩ : ByteArray).size = 0 := rfl
  split
  · show (⟨#[]⟩ : ByteArray).size ≤ _
    omega
  · split
    · split
      · show (P1 ++ a).size ≤ _
        rw [app_size]; omega
      · split
        · show (P2 ++ a).size ≤ _
          rw [app_size]; omega
        · split
          · show (P4 ++ a ++ BR).size ≤ _
            rw [app_size, app_size]; omega
          · show (P3 ++ a).size ≤ _
            rw [app_size]; omega
    · show (⟨#[]⟩ : ByteArray).size ≤ _
      omega

theorem chan_longer (d : Int) (a : ByteArray) (hr : rightB a = true) (h0 : 0 ≤ d) (h2 : d ≤ 2) (hn : (measV 0 a).1 ≠ 40) : a.size < (chanV d a).1.size := by
  have hc := cut_chan d a hr h0 h2 hn
  have := cutV_lt (a := (chanV d a).1) (by rw [hc])
  rw [hc] at this
  exact this

abbrev NIL : ByteArray := ⟨#[110, 105, 108]⟩
theorem nil_no {a : ByteArray} {d : Int} (hr : rightB a = true) (h0 : 0 ≤ d) (h2 : d ≤ 2) (hn : (measV 0 a).1 ≠ 40) : (chanV d a).1 ≠ NIL := by
  intro e
  have hc := cut_chan d a hr h0 h2 hn
  rw [e] at hc
  have : cutV NIL = (0, ⟨#[]⟩, false) := by
    unfold cutV
    rw [if_neg (by rw [no_pre (by decide)]; decide), if_neg (by rw [no_pre (by decide)]; decide), if_neg (by rw [no_pre (by decide)]; decide)]
  rw [this] at hc
  cases congrArg (fun x => x.2.2) hc

theorem nil_list {a : ByteArray} (h : a.toList = [110, 105, 108]) : a = NIL := by
  apply data_inj
  rw [← toL, h]

/-- from one channel's type to another one of the same element -/
theorem asg_chan (d k : Int) (a : ByteArray) (hr : rightB a = true) (h0 : 0 ≤ d) (h2 : d ≤ 2) (k0 : 0 ≤ k) (k2 : k ≤ 2) (hn : (measV 0 a).1 ≠ 40) :
    asgV (chanV d a).1 (chanV k a).1 = (k == d || d == 0) := by
  unfold asgV
  rw [if_pos (right_chan k a hr k0 k2 hn), split_chan k a hr k0 k2 hn, split_chan d a hr h0 h2 hn]
  by_cases e : (chanV d a).1.toList = (chanV k a).1.toList
  · rw [if_pos e]
    have e2 := toL_inj.1 e
    have hc := cut_chan d a hr h0 h2 hn
    rw [e2, cut_chan k a hr k0 k2 hn] at hc
    have : k = d := congrArg (fun x => x.1) hc
    simp [this]
  · rw [if_neg e, if_neg (fun h => nil_no hr h0 h2 hn (nil_list h))]
    have hkd : k ≠ d := fun h => e (by rw [h])
    simp only [if_true]
    by_cases hd : d = 0
    · rw [if_pos hd, if_neg (by omega)]
      simp [hd]
    · rw [if_neg hd]
      simp [hkd, hd]

theorem asg_nil (d : Int) (a : ByteArray) (hr : rightB a = true) (h0 : 0 ≤ d) (h2 : d ≤ 2) (hn : (measV 0 a).1 ≠ 40) : asgV NIL (chanV d a).1 = true := by
  unfold asgV
  rw [if_pos (right_chan d a hr h0 h2 hn), split_chan d a hr h0 h2 hn]
  by_cases e : NIL.toList = (chanV d a).1.toList
  · rw [if_pos e]
  · rw [if_neg e, if_pos (by rw [toL])]
    rfl

theorem asg_self (d : Int) (a : ByteArray) (hr : rightB a = true) (h0 : 0 ≤ d) (h2 : d ≤ 2) (hn : (measV 0 a).1 ≠ 40) : asgV (chanV d a).1 a = false := by
  have hl := chan_longer d a hr h0 h2 hn
  unfold asgV
  rw [if_pos hr, split_chan d a hr h0 h2 hn]
  rw [if_neg (fun e => by rw [toL_inj.1 e] at hl; omega), if_neg (fun h => nil_no hr h0 h2 hn (nil_list h))]
  simp only [if_true]
  split
  · split
    · split
      · rfl
      · rename_i hs _ _
        unfold splitA at hs ⊢
        rw [if_pos hr] at hs ⊢
        have := cutV_lt hs
        rw [beq_eq_false_iff_ne]
        intro e
        rw [← toL_inj.1 e] at this
        omega
    · rfl
  · rfl

theorem sends_chan (d : Int) (a : ByteArray) (hr : rightB a = true) (h0 : 0 ≤ d) (h2 : d ≤ 2) (hn : (measV 0 a).1 ≠ 40) : sendsV (chanV d a).1 = (d != 2) := by
  unfold sendsV
  rw [split_chan d a hr h0 h2 hn]
  rfl
theorem recvs_chan (d : Int) (a : ByteArray) (hr : rightB a = true) (h0 : 0 ≤ d) (h2 : d ≤ 2) (hn : (measV 0 a).1 ≠ 40) : recvsV (chanV d a).1 = (d != 1) := by
  unfold recvsV
  rw [split_chan d a hr h0 h2 hn]
  rfl

theorem round_ev (d k : Int) (a : ByteArray) (ha : a.size ≤ 140737488351232) (hr : rightB a = true) (h0 : 0 ≤ d) (h2 : d ≤ 2) (k0 : 0 ≤ k) (k2 : k ≤ 2) (hn : (measV 0 a).1 ≠ 40)
    (r : Bool) (hnext : Ev (fun n => drowselaw04_TypesBack.l0 n a d (chanV d a).1 (k + 1)) r) : Ev (fun n => drowselaw04_TypesBack.l0 n a d (chanV d a).1 k) r := by
  have hs := chan_size d a
  have hk := chan_size k a
  refine Ev.step (fun n => by rw [drowselaw04_TypesBack.l0]) ?_
  simp only [show k < 3 by omega, if_true]
  refine (chan_ev k a (by omega)).bind ?_
  refine (asg_ev _ _ (by omega) (by omega)).bind ?_
  rw [asg_chan d k a hr h0 h2 k0 k2 hn, wadd k0 (by omega)]
  by_cases e : k = d
  · subst e
    simpa using hnext
  · have hb : (k == d) = false := beq_eq_false_iff_ne.2 e
    rw [hb]
    simpa [e] using hnext

theorem TypesBack : drowselaw04_TypesBack.Pure := by
  intro a d ha _
  refine Ev.rounds ?_
  refine (right_ev _ (by decide)).bind ?_
  have hint : rightB ⟨#[105, 110, 116]⟩ = true := by
    unfold rightB measV
    rw [depth_plain (by unfold plainB; rw [toL]; rfl)]
    rfl
  rw [hint]
  simp only [if_true]
  refine (chan_ev d a (by omega)).bind ?_
  have hs := chan_size d a
  by_cases hok : (chanV d a).2 = 0
  · obtain ⟨h0, h2, hr, hn⟩ := (chan_ok d a).1 hok
    simp only [hok, if_true]
    refine (split_ev _ (by omega)).bind ?_
    rw [split_chan d a hr h0 h2 hn]
    refine (chan_ev d a (by omega)).bind ?_
    simp only [hok, if_true, bne_self_eq_false]
    refine Ev.step (fun n => by rw [drowselaw04_TypesBack.j0]) ?_
    simp only [Bool.false_eq_true, if_false]
    refine (dep_ev _ (by omega)).bind ?_
    refine (dep_ev _ (by omega)).bind ?_
    have e1 : depV (chanV d a).1 = (measV 0 a).1 + 1 := by
      unfold depV
      rw [right_chan d a hr h0 h2 hn, if_pos rfl, meas_chan d a hr h0 h2 hn]
    have e2 : depV a = (measV 0 a).1 := by unfold depV; rw [if_pos hr]
    obtain ⟨n, _, hn40, hm⟩ := right_some hr
    have e3 : (measV 0 a).1 = n := by rw [hm]
    rw [e1, e2, e3, wadd (by omega) (by omega)]
    simp only [if_true]
    refine (sends_ev _ (by omega)).bind ?_
    rw [sends_chan d a hr h0 h2 hn]
    simp only [bne_self_eq_false, Bool.false_eq_true, if_false]
    refine (recvs_ev _ (by omega)).bind ?_
    rw [recvs_chan d a hr h0 h2 hn]
    simp only [bne_self_eq_false]
    refine Ev.step (fun n => by rw [drowselaw04_TypesBack.j1]) ?_
    simp only [Bool.false_eq_true, if_false]
    refine round_ev d 0 a ha hr h0 h2 (by omega) (by omega) hn _ ?_
    refine round_ev d 1 a ha hr h0 h2 (by omega) (by omega) hn _ ?_
    refine round_ev d 2 a ha hr h0 h2 (by omega) (by omega) hn _ ?_
    refine Ev.step (fun n => by rw [drowselaw04_TypesBack.l0]) ?_
    simp only [show ¬ (2 + 1 : Int) < 3 by omega, if_false]
    refine (asg_ev _ _ (by decide) (by omega)).bind ?_
    refine (asg_ev _ _ (by omega) (by omega)).bind ?_
    rw [asg_nil d a hr h0 h2 hn, asg_self d a hr h0 h2 hn]
    exact Ev.now _
  · simp only [hok, if_false]
    refine (right_ev a (by omega)).bind ?_
    have hno : ¬ (0 ≤ d ∧ d ≤ 2 ∧ rightB a = true ∧ (measV 0 a).1 ≠ 40) := fun h => hok ((chan_ok d a).2 h)
    have he : (chanV d a).1 = ⟨#[]⟩ := by
      unfold chanV
      split
      · rfl
      · rw [if_neg (fun h => hno ⟨by omega, by omega, h.1, h.2⟩)]
    rw [he]
    have hz : (⟨#[]⟩ : ByteArray).toList = [] := by rw [toL]
    simp only [hz, if_true]
    by_cases h0 : d < 0
    · simp only [h0, if_true]; exact Ev.now _
    · by_cases h2 : d > 2
      · simp only [h0, h2, if_true, if_false]; exact Ev.now _
      · simp only [h0, h2, if_false]
        by_cases hr : rightB a = true
        · simp only [hr, if_true]
          refine (dep_ev a (by omega)).bind ?_
          have e2 : depV a = (measV 0 a).1 := by unfold depV; rw [if_pos hr]
          have e3 : (measV 0 a).1 = 40 := by
            by_cases e : (measV 0 a).1 = 40
            · exact e
            · exact absurd ⟨by omega, by omega, hr, e⟩ hno
          rw [e2, e3]
          exact Ev.now _
        · simp only [hr]; exact Ev.now _

end Go.Proofs.Ytddagoihchlihaa.Pure
