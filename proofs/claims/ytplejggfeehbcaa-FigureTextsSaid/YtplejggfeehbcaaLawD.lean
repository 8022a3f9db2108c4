/-
  The walk of FigureTexts: Text of any number and Read of any text are the document's, there and back.
-/
import Derived.Test.YtplejggfeehbcaaFigJ
import Derived.Test.YtplejggfeehbcaaFigF
import Derived.Test.YtplejggfeehbcaaLawA
namespace Go.Proofs.Ytplejggfeehbcaa
open Go.RowKit
set_option linter.unusedSimpArgs false

set_option maxHeartbeats 2000000 in
set_option maxRecDepth 100000 in
theorem texts_walk (x : Nat) (s : ByteArray) (w : World) (hx0 : (Lit.float .f64 x).wf = true) (_hs : s.size ≤ 140737488351232) :
    Calls Try.prog 8 #[.float .f64 x, .string s] w fun e w' => e = .returned (.bool true) ∧ Below w.heap.size w w' := by
  have hx := float_lt hx0
  have C1 := Lib.hid (text_c x hx)
  have C2 := Lib.hid (refText_c x hx)
  have C3 := Lib.hid (read_c ⟨(textL (onev x)).toArray⟩)
  have C4 := Lib.hid (refOne_c x)
  have hrt := read_text x hx
  have ed : ((⟨(textL (onev x)).toArray⟩ : ByteArray).data.toList) = textL (onev x) := rfl
  rw [ed, hrt] at C3
  obtain ⟨T, hT⟩ : ∃ T : ByteArray, (⟨(textL (onev x)).toArray⟩ : ByteArray) = T := ⟨_, rfl⟩
  rw [hT] at C1 C2 C3
  generalize onev x = o at *
  have C5 := Lib.hid (read_c s)
  have C6 := Lib.hid (refRead_c s)
  have hzl := readV_lt s.data.toList
  have hback := @read_back s.data.toList
  obtain ⟨z, ok, hr⟩ : ∃ z ok, readV s.data.toList = (z, ok) := ⟨_, _, rfl⟩
  rw [hr] at C5 C6 hzl hback
  have C7 := Lib.hid (text_c z hzl)
  clear hx0 hx hrt ed hT hr hzl
  have ett : (T.toList == T.toList) = true := by simp
  cases ok with
  | true =>
    have hb : (⟨(textL (onev z)).toArray⟩ : ByteArray) = s := by
      rw [hback rfl]
    rw [hb] at C7
    have ess : (s.toList == s.toList) = true := by simp
    clear hback hb
    go_enter Try.func8, Try.ntmps8
    go_wp2_with fail
    refine (awake01_c _).mono ?_
    rintro e w1 ⟨rfl, hb1⟩
    have HB1 := Lib.hid hb1
    clear hb1
    go_wp2_with fail
    refine (C1.out _).mono ?_
    rintro e w2 ⟨rfl, hb2⟩
    have HB2 : Hid (Below w.heap.size w w2) := Lib.hid (HB1.out.trans (hb2.mono HB1.out.size))
    clear hb2
    go_wp2_with fail
    refine (C2.out _).mono ?_
    rintro e w3 ⟨rfl, rfl⟩
    go_wp2_with fail
    refine (C3.out _).mono ?_
    rintro e w4 ⟨rfl, hb4⟩
    have HB4 : Hid (Below w.heap.size w w4) := Lib.hid (HB2.out.trans (hb4.mono HB2.out.size))
    clear hb4
    simp only [errOf, if_true]
    go_wp2_with fail
    refine (C4.out _).mono ?_
    rintro e w5 ⟨rfl, rfl⟩
    go_wp2_with fail
    refine (bits_c _ _ _).mono ?_
    rintro e w5 ⟨rfl, rfl⟩
    rw [decide_eq_true rfl]
    go_wp2_with fail
    refine (C5.out _).mono ?_
    rintro e w6 ⟨rfl, hb6⟩
    have HB6 : Hid (Below w.heap.size w w6) := Lib.hid (HB4.out.trans (hb6.mono HB4.out.size))
    clear hb6
    simp only [errOf, if_true]
    go_wp2_with fail
    refine (C6.out _).mono ?_
    rintro e w7 ⟨rfl, rfl⟩
    go_wp2_with fail
    refine (bits_c _ _ _).mono ?_
    rintro e w5 ⟨rfl, rfl⟩
    rw [decide_eq_true rfl]
    go_wp2_with fail
    refine (C7.out _).mono ?_
    rintro e w8 ⟨rfl, hb8⟩
    have HB8 : Hid (Below w.heap.size w w8) := Lib.hid (HB6.out.trans (hb8.mono HB6.out.size))
    clear hb8
    go_wp2
    go_ret
    exact ⟨rfl, HB8.out⟩
  | false =>
    clear hback
    go_enter Try.func8, Try.ntmps8
    go_wp2_with fail
    refine (awake01_c _).mono ?_
    rintro e w1 ⟨rfl, hb1⟩
    have HB1 := Lib.hid hb1
    clear hb1
    go_wp2_with fail
    refine (C1.out _).mono ?_
    rintro e w2 ⟨rfl, hb2⟩
    have HB2 : Hid (Below w.heap.size w w2) := Lib.hid (HB1.out.trans (hb2.mono HB1.out.size))
    clear hb2
    go_wp2_with fail
    refine (C2.out _).mono ?_
    rintro e w3 ⟨rfl, rfl⟩
    go_wp2_with fail
    refine (C3.out _).mono ?_
    rintro e w4 ⟨rfl, hb4⟩
    have HB4 : Hid (Below w.heap.size w w4) := Lib.hid (HB2.out.trans (hb4.mono HB2.out.size))
    clear hb4
    simp only [errOf, if_true]
    go_wp2_with fail
    refine (C4.out _).mono ?_
    rintro e w5 ⟨rfl, rfl⟩
    go_wp2_with fail
    refine (bits_c _ _ _).mono ?_
    rintro e w5 ⟨rfl, rfl⟩
    rw [decide_eq_true rfl]
    go_wp2_with fail
    refine (C5.out _).mono ?_
    rintro e w6 ⟨rfl, hb6⟩
    have HB6 : Hid (Below w.heap.size w w6) := Lib.hid (HB4.out.trans (hb6.mono HB4.out.size))
    clear hb6
    simp only [errOf, Bool.false_eq_true, if_false]
    go_wp2_with fail
    refine (C6.out _).mono ?_
    rintro e w7 ⟨rfl, rfl⟩
    go_wp2_with fail
    refine (bits_c _ _ _).mono ?_
    rintro e w5 ⟨rfl, rfl⟩
    rw [decide_eq_true rfl]
    go_wp2
    go_ret
    exact ⟨rfl, HB6.out⟩
end Go.Proofs.Ytplejggfeehbcaa
