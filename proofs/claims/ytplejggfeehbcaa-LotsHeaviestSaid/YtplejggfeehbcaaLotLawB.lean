/-
  The walk of LotsHeaviest.
-/
import Derived.Test.YtplejggfeehbcaaLotH
import Derived.Test.YtplejggfeehbcaaLotLawA
import Derived.Test.YtplejggfeehbcaaOpen
namespace Go.Proofs.Ytplejggfeehbcaa
open Go.RowKit
set_option linter.unusedSimpArgs false

set_option maxHeartbeats 4000000 in
set_option maxRecDepth 100000 in
theorem lotsHeaviest_walk (A : Option Addr) (k c : Nat) (xs : List Nat) (n raw : Int) (w : World) (hx : Fs w A k xs ∧ k * 8 ≤ 140737488351232) (hn : (Lit.int .i64 n).wf = true) (hr : (Lit.int .i64 raw).wf = true) :
    Calls Try.prog 13 #[.slice A k c, .int .i64 n, .int .i64 raw] w fun e w' => e = .returned (.bool true) ∧ Below w.heap.size w w' := by
  have hr := int_wf hr
  have hn := int_wf hn
  obtain ⟨h, hk⟩ := hx
  have hk2 : k ≤ 17592186044300 := by omega
  have HF := Lib.hid h
  have HL := Lib.hid h.len
  have HK := Lib.hid hk2
  clear h hk hk2
  go_enter Try.func13, Try.ntmps13
  go_wp2_with fail
  refine (awake17_c _).mono ?_
  rintro e w1 ⟨rfl, hb1⟩
  have HB1 := Lib.hid hb1
  have HF1 := Lib.hid (HF.out.below hb1)
  clear hb1
  go_wp2_with fail
  refine (own17_c A k c xs w1 HF1.out (by have := HK.out; omega)).mono ?_
  rintro e w2 ⟨rfl, hr2, hb2⟩
  have HR2 := Lib.hid hr2
  have HF2 := Lib.hid (HF1.out.below hb2)
  have HU : Hid (Fs w2 (some ⟨w1.heap.size, 0, none⟩) k xs) := Lib.hid (HL.out ▸ Fs.of_row hr2 (by rw [HL.out]; have := HK.out; omega) HF.out.bits)
  have HB2 : Hid (Below w.heap.size w w2) := Lib.hid (HB1.out.trans (hb2.mono HB1.out.size))
  clear hr2 hb2
  obtain ⟨v, hv⟩ : ∃ v, heavyV xs n = v := ⟨_, rfl⟩
  obtain ⟨v2, hv2⟩ : ∃ v, chooseV raw xs n = v := ⟨_, rfl⟩
  have HV := Lib.hid hv
  have HV2 := Lib.hid hv2
  clear hv hv2
  go_wp2_with fail
  refine (heavy_c _ k (k + 2) xs n w2 HU.out (by omega) (fun h => by cases h) HK.out hn.2).mono ?_
  rintro e w3 ⟨rfl, hb3⟩
  rw [HV.out]
  have HR3 := Lib.hid (HR2.out.grown hb3)
  have HF3 := Lib.hid (HF2.out.below hb3)
  have HU3 := Lib.hid (HU.out.below hb3)
  have HB3 : Hid (Below w.heap.size w w3) := Lib.hid (HB2.out.trans (hb3.mono HB2.out.size))
  clear hb3
  go_wp2_with fail
  refine (choose_c raw _ k (k + 2) xs n w3 HU3.out (by omega) (fun h => by cases h) HK.out hr hn.2).mono ?_
  rintro e w4 ⟨rfl, hb4⟩
  rw [HV2.out]
  have HR4 := Lib.hid (HR3.out.grown hb4)
  have HF4 := Lib.hid (HF3.out.below hb4)
  have HB4 : Hid (Below w.heap.size w w4) := Lib.hid (HB3.out.trans (hb4.mono HB3.out.size))
  clear hb4
  go_wp2_with fail
  refine (refHeavy_c A k c xs n w4 HF4.out HK.out hn.2).mono ?_
  rintro e w5 ⟨rfl, hd5⟩
  rw [HV.out]
  have HR5 := Lib.hid (HR4.out.grown hd5.below)
  have HF5 := Lib.hid (HF4.out.below hd5.below)
  have HB5 : Hid (Below w.heap.size w w5) := Lib.hid (HB4.out.trans (hd5.below.mono HB4.out.size))
  clear hd5
  go_wp2_with fail
  refine (refChoose_c raw A k c xs n w5 HF5.out HK.out hr hn.2).mono ?_
  rintro e w6 ⟨rfl, hb6⟩
  rw [HV2.out]
  have HR6 := Lib.hid (HR5.out.grown hb6)
  have HF6 := Lib.hid (HF5.out.below hb6)
  have HB6 : Hid (Below w.heap.size w w6) := Lib.hid (HB5.out.trans (hb6.mono HB5.out.size))
  clear hb6
  go_wp2_with fail
  refine (still17_c A k c w1.heap.size xs w6 HF6.out (by have := HK.out; omega) HR6.out).mono ?_
  rintro e w7 ⟨rfl, hd7⟩
  have HB7 : Hid (Below w.heap.size w w7) := Lib.hid (HB6.out.trans (hd7.below.mono HB6.out.size))
  clear hd7
  go_wp2
  go_ret
  exact ⟨rfl, HB7.out⟩
end Go.Proofs.Ytplejggfeehbcaa
