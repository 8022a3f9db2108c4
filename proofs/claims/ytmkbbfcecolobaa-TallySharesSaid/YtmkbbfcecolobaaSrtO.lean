/-
  tally.Shares, tally.Rank; the walk of TallyShares.
-/
import Derived.Test.YtmkbbfcecolobaaSrtL
import Derived.Test.YtmkbbfcecolobaaTalF
import Derived.Test.YtmkbbfcecolobaaTalOpen
namespace Go.Proofs.Ytmkbbfcecolobaa
open Go.RowKit Srt
set_option linter.unusedSimpArgs false

theorem talRank_c (A : Option Addr) (n c : Nat) (ss : List St) (k : Int) (w : World) (h : Ss w A n ss) (hn : n ≤ 1000) :
    Calls Try.prog 23 #[.slice A n c, .int .i64 k] w fun e w' => ∃ g f, e = .returned (.slice (some ⟨g, 0, none⟩) n n) ∧ Arr w' g n f ∧ Mv 0 n (fun k => k) f ∧ Sorted (keyAt (valuesV ss k)) f 0 n ∧ Below w.heap.size w w' := by
  have CV := Lib.hid (values_c A n c ss k w h.cs h.len hn)
  have HX := Lib.hid (valuesV_lt ss k)
  have HXL : Hid ((valuesV ss k).length = n) := Lib.hid (by simp [valuesV, h.len])
  generalize valuesV ss k = xs at *
  clear h
  go_enter Try.func23, Try.ntmps23
  go_wp2_with fail
  refine CV.out.mono ?_
  rintro e w1 ⟨rfl, hr, hb⟩
  have HB := Lib.hid hb
  have CM := Lib.hid (rank_c (some ⟨w.heap.size, 0, none⟩) n n xs w1 (HXL.out ▸ Fs.of_row (xs := xs) (rest := []) (by rw [List.append_nil]; exact hr) (by rw [HXL.out]; omega) HX.out) (by omega))
  clear hr hb
  go_wp2_with fail
  refine CM.out.mono ?_
  rintro e w2 ⟨f, rfl, hA, hM, hS, hb2⟩
  have HA := Lib.hid hA
  have HM := Lib.hid hM
  have HS := Lib.hid hS
  have HB2 : Hid (Below w.heap.size w w2) := Lib.hid (HB.out.trans (hb2.mono HB.out.size))
  clear hA hM hS hb2
  go_wp2
  go_ret
  exact ⟨_, f, rfl, HA.out, HM.out, HS.out, HB2.out⟩
theorem talShares_c (A : Option Addr) (n c : Nat) (ss : List St) (k : Int) (w : World) (h : Ss w A n ss) (hn : n ≤ 1000) :
    Calls Try.prog 21 #[.slice A n c, .int .i64 k] w fun e w' => ∃ g, e = .returned (.slice (some ⟨g, 0, none⟩) n n) ∧ Fs w' (some ⟨g, 0, none⟩) n (shareL (valuesV ss k)) ∧ Below w.heap.size w w' := by
  have CV := Lib.hid (values_c A n c ss k w h.cs h.len hn)
  have HX := Lib.hid (valuesV_lt ss k)
  have HXL : Hid ((valuesV ss k).length = n) := Lib.hid (by simp [valuesV, h.len])
  generalize valuesV ss k = xs at *
  clear h
  go_enter Try.func21, Try.ntmps21
  go_wp2_with fail
  refine CV.out.mono ?_
  rintro e w1 ⟨rfl, hr, hb⟩
  have HB := Lib.hid hb
  have CM := Lib.hid (share_c (some ⟨w.heap.size, 0, none⟩) n n xs w1 (HXL.out ▸ Fs.of_row (xs := xs) (rest := []) (by rw [List.append_nil]; exact hr) (by rw [HXL.out]; omega) HX.out) (Nat.le_refl _) (by omega))
  clear hr hb
  go_wp2_with fail
  refine CM.out.mono ?_
  rintro e w2 ⟨rfl, hr2, hb2⟩
  have hsl : (shareL xs).length = n := by rw [shareL_len, HXL.out]
  have HF : Hid (Fs w2 (some ⟨w1.heap.size, 0, none⟩) n (shareL xs)) := Lib.hid (hsl ▸ Fs.of_row (xs := shareL xs) (rest := []) (by rw [List.append_nil]; exact hr2) (by rw [hsl]; omega) (shareL_bits xs))
  have HB2 : Hid (Below w.heap.size w w2) := Lib.hid (HB.out.trans (hb2.mono HB.out.size))
  clear hr2 hb2 hsl
  go_wp2
  go_ret
  exact ⟨_, rfl, HF.out, HB2.out⟩
set_option maxHeartbeats 4000000 in
set_option maxRecDepth 100000 in
theorem shares_walk (A : Option Addr) (n c : Nat) (ss : List St) (k : Int) (w : World) (hx : Ss w A n ss ∧ n ≤ c ∧ (A = none → n = 0 ∧ c = 0) ∧ n * 64 ≤ 140737488351232) (_hk : (Lit.int .i64 k).wf = true) :
    Calls Try.prog 5 #[.slice A n c, .int .i64 k] w fun e w' => e = .returned (.bool true) ∧ Below w.heap.size w w' := by
  obtain ⟨hS, hnc, hA, hn⟩ := hx
  have HS := Lib.hid hS
  have HNC := Lib.hid hnc
  have HA := Lib.hid hA
  have HN := Lib.hid hn
  clear hS hnc hA hn
  go_enter Try.func5, Try.ntmps5
  go_wp2_with fail
  refine (awake22_c _).mono ?_
  rintro e w1 ⟨rfl, hb1⟩
  have HB1 := Lib.hid hb1
  have HS1 := Lib.hid (HS.out.below hb1)
  clear hb1
  go_wp2_with fail
  refine (cut22_c A n c ss w1 HS1.out HNC.out HA.out HN.out).mono ?_
  rintro e w1 ⟨⟨A2, n2, c2, ss2, rfl, hS2, hc2, hn2, hA2⟩, rfl⟩
  have HS2 := Lib.hid hS2
  have HA2 := Lib.hid hA2
  clear HS HNC HA HN HS1 hS2 hA2 hc2
  go_wp2_with fail
  refine (own22_c A2 n2 c2 ss2 w1 HS2.out HA2.out hn2).mono ?_
  rintro e w3 ⟨A3, c3, rfl, hU3, hb3⟩
  have HU3 := Lib.hid hU3
  have HS3 := Lib.hid (HS2.out.below hb3)
  have HB3 : Hid (Below w.heap.size w w3) := Lib.hid (HB1.out.trans (hb3.mono HB1.out.size))
  clear hU3 hb3 HS2 HA2 HB1
  have CR := Lib.hid (refValues_c A2 n2 c2 ss2 k w3 HS3.out.cs HS3.out.len hn2)
  have CS := Lib.hid (fun w h => talShares_c A3 n2 c3 ss2 k w h hn2)
  have CK := Lib.hid (fun w h => talRank_c A3 n2 c3 ss2 k w h hn2)
  have CM := Lib.hid (fun w h => most22_c A3 n2 c3 ss2 k w h hn2)
  generalize valuesV ss2 k = xs at *
  go_wp2_with fail
  refine CR.out.mono ?_
  rintro e w4 ⟨A4, c4, rfl, hF4, _, hb4⟩
  have HF4 := Lib.hid hF4
  have HU4 := Lib.hid (HU3.out.below hb4)
  have HS4 := Lib.hid (HS3.out.below hb4)
  have HB4 : Hid (Below w.heap.size w w4) := Lib.hid (HB3.out.trans (hb4.mono HB3.out.size))
  clear hF4 hb4 HU3 HS3 HB3 CR
  go_wp2_with fail
  refine (CS.out w4 HU4.out).mono ?_
  rintro e w5 ⟨g5, rfl, hF5, hb5⟩
  have HF5 := Lib.hid hF5
  have HB5 := Lib.hid hb5
  have HX5 := Lib.hid (HF4.out.below hb5)
  clear hF5 hb5
  go_wp2_with fail
  refine (refShare_c A4 n2 c4 xs w5 HX5.out (by omega)).mono ?_
  rintro e w6 ⟨A6, c6, rfl, hF6, _, hb6⟩
  have HF6 := Lib.hid hF6
  have HG6 := Lib.hid (HF5.out.below hb6)
  have HB6 : Hid (Below w4.heap.size w4 w6) := Lib.hid (HB5.out.trans (hb6.mono HB5.out.size))
  clear hF6 hb6 HF5 HB5 HX5
  go_wp2_with fail
  refine (same22_c _ A6 n2 n2 c6 (shareL xs) w6 HG6.out HF6.out hn2).mono ?_
  rintro e w7 ⟨rfl, d7, rfl⟩
  have HB7 : Hid (Below w4.heap.size w4 (w6.drewN d7)) := Lib.hid (below_drewN HB6.out d7)
  have HU7 := Lib.hid (HU4.out.below HB7.out)
  have HF7 := Lib.hid (HF4.out.below HB7.out)
  clear HF6 HG6 HB6
  go_wp2_with fail
  refine (CK.out _ HU7.out).mono ?_
  rintro e w8 ⟨g8, f8, rfl, hA8, hM8, hS8, hb8⟩
  have HA8 := Lib.hid hA8
  have HM8 := Lib.hid hM8
  have HS8 := Lib.hid hS8
  have HB8 : Hid (Below w4.heap.size w4 w8) := Lib.hid (HB7.out.trans (hb8.mono HB7.out.size))
  have HF8 := Lib.hid (HF4.out.below HB8.out)
  clear hA8 hM8 hS8 hb8 HB7 HU7 HF7
  go_wp2_with fail
  refine (refRank_c A4 n2 c4 xs w8 HF8.out (by omega)).mono ?_
  rintro e w9 ⟨f9, rfl, hA9, hrk, hb9⟩
  have HE9 := Lib.hid (rk_same HM8.out HS8.out hrk)
  have HA9 := Lib.hid hA9
  have HAA := Lib.hid (HA8.out.below hb9 HA8.out.lt)
  have HB9 : Hid (Below w4.heap.size w4 w9) := Lib.hid (HB8.out.trans (hb9.mono HB8.out.size))
  obtain ⟨g9, hg9⟩ : ∃ g, w8.heap.size = g := ⟨_, rfl⟩
  rw [hg9] at HA9 ⊢
  clear hA9 hrk hb9 HB8 HF8 HA8 HM8 HS8 hg9
  go_wp2_with fail
  go_loopw [11] (fun x wr => ∃ j : Nat, j ≤ n2 ∧ x = .int .i64 j ∧ ∃ d, wr = w9.drewN d) (fun x _ => n2 - (intOf x).toNat)
  case atStart => exact ⟨0, by omega, rfl, 0, rfl⟩
  case round =>
    obtain ⟨j, hj, rfl, d, rfl⟩ := hrel
    by_cases hjn : j < n2
    · have d0 : decide ((j : Int) < (n2 : Int)) = true := decide_eq_true (by omega)
      have cx := HAA.out.cell j hjn
      have cy := HA9.out.cell j hjn
      rw [← HE9.out j hjn] at cy
      obtain ⟨u, hu⟩ : ∃ u : Nat, f8 j = u := ⟨_, rfl⟩
      rw [hu] at cx cy
      have cb : ((u : Int) != (u : Int)) = false := by simp
      clear hu
      go_wp2_with fail
      go_quiet (fail)
      go_wp2_with fail
      go_roundw
      case rel => exact ⟨j + 1, by omega, by go_num, _, rfl⟩
      case measure => simp [intOf] <;> omega
    · have d0 : decide ((j : Int) < (n2 : Int)) = false := decide_eq_false (by omega)
      have HBD : Hid (Below w4.heap.size w4 (w9.drewN d)) := Lib.hid (below_drewN HB9.out d)
      have HUD := Lib.hid (HU4.out.below HBD.out)
      clear HAA HA9 HE9 HB9
      go_wp2_with fail
      refine (CM.out _ HUD.out).mono ?_
      rintro e w10 ⟨rfl, hb10⟩
      have HB10 : Hid (Below w4.heap.size w4 w10) := Lib.hid (HBD.out.trans (hb10.mono HBD.out.size))
      have HF10 := Lib.hid (HF4.out.below HB10.out)
      clear hb10 HBD HUD
      go_wp2_with fail
      refine (refMost_c A4 n2 c4 xs w10 HF10.out).mono ?_
      rintro e w11 ⟨rfl, d11, rfl⟩
      have HB11 : Hid (Below w4.heap.size w4 (w10.drewN d11)) := Lib.hid (below_drewN HB10.out d11)
      have HU11 := Lib.hid (HU4.out.below HB11.out)
      have HS11 := Lib.hid (HS4.out.below HB11.out)
      generalize (bestV xs 1).1 = bx at *
      generalize (bestV xs 1).2 = bi at *
      clear HB10 HF10
      go_wp2_with fail
      refine (bits_c _ _ _).mono ?_
      rintro e w12 ⟨rfl, rfl⟩
      rw [decide_eq_true rfl]
      go_wp2_with fail
      refine (still22_c A3 A2 n2 c3 c2 ss2 _ HU11.out HS11.out hn2).mono ?_
      rintro e w14 ⟨rfl, d14, rfl⟩
      have HB14 := Lib.hid (HB4.out.trans ((below_drewN HB11.out d14).mono HB4.out.size))
      rw [drewN_drewN] at HB14
      go_wp2
      go_ret
      exact ⟨rfl, HB14.out⟩
end Go.Proofs.Ytmkbbfcecolobaa
