/-
  The walk of FigureEnds: Least and Most of any list are the document's; the list stays.
-/
import Derived.Test.YtplejggfeehbcaaFigH
import Derived.Test.YtplejggfeehbcaaFigF
import Derived.Test.YtplejggfeehbcaaOpen
namespace Go.Proofs.Ytplejggfeehbcaa
open Go.RowKit
set_option linter.unusedSimpArgs false

theorem Fs.drw {w w' : World} {A : Option Addr} {n : Nat} {xs : List Nat} (h : Fs w A n xs) (d : Drw w w') : Fs w' A n xs := h.below d.below

set_option maxHeartbeats 2000000 in
set_option maxRecDepth 100000 in
theorem ends_walk (A : Option Addr) (n c : Nat) (xs : List Nat) (w : World) (hx : Fs w A n xs ∧ n * 8 ≤ 140737488351232) :
    Calls Try.prog 6 #[.slice A n c] w fun e w' => e = .returned (.bool true) ∧ Below w.heap.size w w' := by
  obtain ⟨h, hn⟩ := hx
  have hn2 : n ≤ 17592186044400 := by omega
  have HF := Lib.hid h
  have HN := Lib.hid hn2
  have HL := Lib.hid h.len
  clear h hn hn2
  go_enter Try.func6, Try.ntmps6
  go_wp2_with fail
  refine (awake01_c _).mono ?_
  rintro e w1 ⟨rfl, hb1⟩
  have HB1 := Lib.hid hb1
  have HF1 := Lib.hid (HF.out.below hb1)
  clear hb1
  go_wp2_with fail
  refine (own_c A n c xs w1 HF1.out HN.out).mono ?_
  rintro e w2 ⟨rfl, hr2, hb2⟩
  have HR2 := Lib.hid hr2
  have HF2 := Lib.hid (HF1.out.below hb2)
  have HU : Hid (Fs w2 (some ⟨w1.heap.size, 0, none⟩) n xs) := Lib.hid (HL.out ▸ Fs.of_row hr2 (by rw [HL.out]; have := HN.out; omega) HF.out.bits)
  have HB2 : Hid (Below w.heap.size w w2) := Lib.hid (HB1.out.trans (hb2.mono HB1.out.size))
  clear hr2 hb2
  go_wp2_with fail
  refine (least_c _ n (n + 2) xs w2 HU.out).mono ?_
  rintro e w3 ⟨rfl, rfl⟩
  go_wp2_with fail
  refine (most_c _ n (n + 2) xs w2 HU.out).mono ?_
  rintro e w3 ⟨rfl, rfl⟩
  go_wp2_with fail
  refine (least_c _ n (n + 2) xs w2 HU.out).mono ?_
  rintro e w3 ⟨rfl, rfl⟩
  go_wp2_with fail
  refine (refLeast_c A n c xs w2 HF2.out).mono ?_
  rintro e w3 ⟨rfl, hd3⟩
  have HF3 := Lib.hid (HF2.out.drw hd3)
  have HD3 := Lib.hid hd3
  clear hd3
  go_wp2_with fail
  refine (refMost_c A n c xs w3 HF3.out).mono ?_
  rintro e w4 ⟨rfl, hd4⟩
  have HD4 := Lib.hid (HD3.out.trans hd4)
  have HF4 := Lib.hid (HF3.out.drw hd4)
  clear hd4
  go_wp2_with fail
  refine (bits_c _ _ _).mono ?_
  rintro e w5 ⟨rfl, rfl⟩
  rw [decide_eq_true rfl]
  go_wp2_with fail
  refine (bits_c _ _ _).mono ?_
  rintro e w5 ⟨rfl, rfl⟩
  rw [decide_eq_true rfl]
  go_wp2_with fail
  refine (bits_c _ _ _).mono ?_
  rintro e w5 ⟨rfl, rfl⟩
  rw [decide_eq_true rfl]
  have HR4 : Hid (Row w4 w1.heap.size 24 (flo xs ++ [.float .f64 4635118810238550016, .float .f64 4635189178982727680])) := Lib.hid (by obtain ⟨d, rfl⟩ := HD4.out; exact HR2.out)
  go_wp2_with fail
  refine (still_c A n c w1.heap.size xs w4 HF4.out HN.out HR4.out).mono ?_
  rintro e w6 ⟨rfl, hd6⟩
  have HD6 := Lib.hid (HD4.out.trans hd6)
  clear hd6
  go_wp2
  go_ret
  exact ⟨rfl, HB2.out.trans (HD6.out.below.mono HB2.out.size)⟩
end Go.Proofs.Ytplejggfeehbcaa
