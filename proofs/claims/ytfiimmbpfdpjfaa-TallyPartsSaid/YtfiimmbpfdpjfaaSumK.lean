/-
  The walk of TallySums.
-/
import Derived.Test.YtfiimmbpfdpjfaaSumI
import Derived.Test.YtfiimmbpfdpjfaaTalOpen
import Derived.Laws.OwnMore
namespace Go.Proofs.Ytfiimmbpfdpjfaa
open Go.RowKit
set_option linter.unusedSimpArgs false

theorem infoSumP : True := trivial
/-- no more than may be looked at, of those that came in -/
theorem cut22b_c (A : Option Addr) (n c : Nat) (ss : List St) (w : World) (h : Ss w A n ss) (hc : n ≤ c) (hA : A = none → n = 0 ∧ c = 0) (hn : n * 64 ≤ 140737488351232) :
    Calls Try.prog 6 #[.slice A n c] w fun e w' => (∃ A' n' c' ss', e = .returned (.slice A' n' c') ∧ Ss w A' n' ss' ∧ n' ≤ c' ∧ n' ≤ 1000 ∧ (A' = none → n' = 0 ∧ c' = 0) ∧ ∀ s ∈ ss', s ∈ ss) ∧ w' = w := by
  have HS := Lib.hid h
  have HN := Lib.hid hA
  by_cases hlt : n ≤ 1000
  · have HR := Lib.hid hc
    have HLt := Lib.hid hlt
    clear h hA
    go_enter Try.func6, Try.ntmps6
    go_wp2
    go_ret
    exact ⟨⟨A, n, c, ss, rfl, HS.out, HR.out, HLt.out, HN.out, fun s hs => hs⟩, rfl⟩
  · obtain ⟨ad, hA', hcell⟩ := h.cs (by rw [sts_len, h.len]; omega)
    subst hA'
    have HR := Lib.hid hc
    clear h hA hcell
    go_enter Try.func6, Try.ntmps6
    go_wp2
    go_ret
    refine ⟨⟨some ad, 1000, c, ss.take 1000, ?_, HS.out.take 1000 (by omega), by have := HR.out; omega, by omega, (fun h => nomatch h), fun s hs => List.mem_of_mem_take hs⟩, rfl⟩
    try rw [add_zero]
    try rfl
/-- what a list of sums in memory looks like -/
theorem own_sums {w : World} {base : Nat} {v : Value} {N : Nat} {l : List Sm} (h : w.ownsRow base 28 7 v N (sms l)) :
    ∃ A c, v = .slice A N c ∧ ∀ i S, l[i]? = some S → ∃ g, A = some ⟨g, 0, none⟩ ∧ base ≤ g ∧ g < w.heap.size ∧
      w.cell? ⟨g, i * 7, none⟩ = some (.string S.fn) ∧ w.cell? ⟨g, i * 7 + 1, none⟩ = some (.int .i64 S.gos) ∧ w.cell? ⟨g, i * 7 + 2, none⟩ = some (.int .i64 S.fin) ∧ w.cell? ⟨g, i * 7 + 3, none⟩ = some (.float .f64 S.be) ∧
      w.cell? ⟨g, i * 7 + 4, none⟩ = some (.float .f64 S.ra) ∧ w.cell? ⟨g, i * 7 + 5, none⟩ = some (.float .f64 S.sh) ∧ w.cell? ⟨g, i * 7 + 6, none⟩ = some (.float .f64 S.fa) := by
  have hl : l.length = N := by have := h.1; rw [sms_len] at this; omega
  rcases h.2 with ⟨e1, e2⟩ | ⟨g, cap, cur, e1, hg1, hgg, _⟩
  · refine ⟨none, 0, by rw [e1, e2], fun i S hi => ?_⟩
    have := (List.getElem?_eq_some_iff.1 hi).1
    omega
  · refine ⟨_, cap, e1, fun i S hi => ⟨g, rfl, hg1, (Array.getElem?_eq_some_iff.1 hgg).1, ?_⟩⟩
    subst e1
    have hlt := (List.getElem?_eq_some_iff.1 hi).1
    have key : ∀ q, q < 7 → w.cell? ⟨g, i * 7 + q, none⟩ = S.cells[q]? := fun q hq => by
      rw [h.cellAt _ (by omega)]
      exact sms_get l i q S hi hq
    exact ⟨key 0 (by decide), key 1 (by decide), key 2 (by decide), key 3 (by decide), key 4 (by decide), key 5 (by decide), key 6 (by decide)⟩
set_option maxHeartbeats 4000000 in
set_option maxRecDepth 100000 in
theorem sums_walk (A : Option Addr) (n c : Nat) (ss : List St) (w : World) (hx : Ss w A n ss ∧ n ≤ c ∧ (A = none → n = 0 ∧ c = 0) ∧ n * 64 ≤ 140737488351232 ∧ ∀ s ∈ ss, s.fn.size ≤ maxLen) :
    Calls Try.prog 3 #[.slice A n c] w fun e w' => e = .returned (.bool true) ∧ Below w.heap.size w w' := by
  obtain ⟨i0, hi, hz0, hz1, hz2⟩ := info_parts infoSum
  obtain ⟨hS, hnc, hA, hn, hsz⟩ := hx
  have HS := Lib.hid hS
  have HNC := Lib.hid hnc
  have HA := Lib.hid hA
  have HN := Lib.hid hn
  have HZ := Lib.hid hsz
  clear hS hnc hA hn hsz
  go_enter Try.func3, Try.ntmps3
  go_wp2_with fail
  refine (awake22_c _).mono ?_
  rintro e w1 ⟨rfl, hb1⟩
  have HB1 := Lib.hid hb1
  have HS1 := Lib.hid (HS.out.below hb1)
  clear hb1
  go_wp2_with fail
  refine (cut22b_c A n c ss w1 HS1.out HNC.out HA.out HN.out).mono ?_
  rintro e w1 ⟨⟨A2, n2, c2, ss2, rfl, hS2, hc2, hn2, hA2, hmem⟩, rfl⟩
  have HS2 := Lib.hid hS2
  have HA2 := Lib.hid hA2
  have HZ2 : Hid (∀ s ∈ ss2, s.fn.size ≤ maxLen) := Lib.hid (fun s hs => HZ.out s (hmem s hs))
  clear HS HNC HA HN HZ HS1 hS2 hA2 hc2 hmem
  go_wp2_with fail
  refine (own22_c A2 n2 c2 ss2 w1 HS2.out HA2.out hn2).mono ?_
  rintro e w3 ⟨A3, c3, rfl, hU3, hb3⟩
  have HU3 := Lib.hid hU3
  have HS3 := Lib.hid (HS2.out.below hb3)
  have HB3 : Hid (Below w.heap.size w w3) := Lib.hid (HB1.out.trans (hb3.mono HB1.out.size))
  clear hU3 hb3 HS2 HA2 HB1
  go_wp2_with fail
  refine (of_c A3 n2 c3 ss2 w3 HU3.out hn2).mono ?_
  rintro e w4 ⟨rfl, hb4⟩
  have HU4 := Lib.hid (HU3.out.below hb4)
  have HS4 := Lib.hid (HS3.out.below hb4)
  have HB4 : Hid (Below w.heap.size w w4) := Lib.hid (HB3.out.trans (hb4.mono HB3.out.size))
  have CR := Lib.hid (refOf_c A2 n2 c2 ss2 w4 HS4.out hn2)
  have CS := Lib.hid (sameSum_c (ofS ss2))
  clear hb4 HU3 HS3 HB3
  obtain ⟨S, hS⟩ : ∃ S, ofS ss2 = S := ⟨_, rfl⟩
  rw [hS] at CR CS ⊢
  obtain ⟨x0, x1, x2, x3, x4, x5, x6⟩ := S
  simp only [Sm.agg, Sm.cells] at CR CS ⊢
  clear hS
  go_wp2_with fail
  refine CR.out.mono ?_
  rintro e w5 ⟨rfl, hb5⟩
  have HU5 := Lib.hid (HU4.out.below hb5)
  have HS5 := Lib.hid (HS4.out.below hb5)
  have HB5 : Hid (Below w.heap.size w w5) := Lib.hid (HB4.out.trans (hb5.mono HB4.out.size))
  clear hb5 HU4 HS4 HB4 CR
  go_wp2_with fail
  refine (CS.out _).mono ?_
  rintro e w6 ⟨rfl, hb6⟩
  have HU6 := Lib.hid (HU5.out.below hb6)
  have HS6 := Lib.hid (HS5.out.below hb6)
  have HB6 : Hid (Below w.heap.size w w6) := Lib.hid (HB5.out.trans (hb6.mono HB5.out.size))
  clear hb6 HU5 HS5 HB5 CS
  go_wp2_with fail
  refine (refGroups_c A2 n2 c2 ss2 w6 HS6.out hn2).mono ?_
  rintro e w7 ⟨vw, ns, rfl, hns, hnl, hown, hb7⟩
  have HU7 := Lib.hid (HU6.out.below hb7)
  have HS7 := Lib.hid (HS6.out.below hb7)
  have HB7 : Hid (Below w.heap.size w w7) := Lib.hid (HB6.out.trans (hb7.mono HB6.out.size))
  obtain ⟨AW, cW, rfl, hW⟩ := own_sums hown
  have HW := Lib.hid hW
  have HNS := Lib.hid hns
  have HGL : Hid ((groupsL ss2 ns).length = ns.length) := Lib.hid (groupsL_len ss2 ns)
  obtain ⟨N, hN⟩ : ∃ N, ns.length = N := ⟨_, rfl⟩
  rw [hN] at HGL hnl ⊢
  have HNN := Lib.hid hN
  clear hb7 HU6 HS6 HB6 hns hown hW hN
  go_wp2_with fail
  go_loopw [7] (fun x wr => ∃ t : Nat, t ≤ 2 ∧ x = .int .i64 t ∧ Below w7.heap.size w7 wr) (fun x _ => 2 - (intOf x).toNat)
  case atStart => exact ⟨0, by omega, rfl, Below.refl _ _⟩
  case round =>
    obtain ⟨t, ht, rfl, hB⟩ := hrel
    have HB := Lib.hid hB
    have HU := Lib.hid (HU7.out.below hB)
    have HS := Lib.hid (HS7.out.below hB)
    by_cases hlt : t < 2
    · have d0 : decide ((t : Int) < 2) = true := decide_eq_true (by omega)
      clear hB
      go_upto_block 1 with fail
      go_cut [] from 29 to 67 (fun wx => Below w7.heap.size w7 wx)
      case rest =>
        have HC := Lib.hid hcut
        clear hcut
        go_wp2_with fail
        go_roundw
        case rel => exact ⟨t + 1, by omega, by go_num, HC.out⟩
        case measure => simp [intOf] <;> omega
      case first =>
        go_wp2_with fail
        refine (groups_c A3 n2 c3 ss2 wr HU.out hn2 HZ2.out).mono ?_
        rintro e w8 ⟨va, ns2, rfl, hns2, _, howna, hb8⟩
        obtain rfl := Names.same HNS.out hns2
        rw [HNN.out] at howna
        obtain ⟨AA, cA, rfl, hAc⟩ := own_sums howna
        have HAO := Lib.hid howna
        have HAC := Lib.hid hAc
        have HB8 : Hid (Below w7.heap.size w7 w8) := Lib.hid (HB.out.trans (hb8.mono HB.out.size))
        have HBR := Lib.hid hb8
        have hs8 : wr.heap.size ≤ w8.heap.size := hb8.size
        have hs7 : w7.heap.size ≤ wr.heap.size := HB.out.size
        clear hns2 howna hAc hb8
        have dN : decide (N ≠ N) = false := by simp
        have dM : ((N : Int) != (N : Int)) = false := by simp
        go_wp2_with fail
        go_loopw [9, 10] (fun i _ wx => ∃ k : Nat, k ≤ N ∧ i = .int .i64 k ∧ Below w8.heap.size w8 wx) (fun i _ _ => N - (intOf i).toNat)
        case atStart => exact ⟨0, by omega, rfl, Below.refl _ _⟩
        case round =>
          obtain ⟨k, hk, rfl, hbx⟩ := hrel
          by_cases hkn : k < N
          · obtain ⟨S, hS⟩ : ∃ S, (groupsL ss2 ns)[k]? = some S := ⟨_, List.getElem?_eq_getElem (by rw [HGL.out]; exact hkn)⟩
            obtain ⟨g, rfl, _, hgl, a0, a1, a2, a3, a4, a5, a6⟩ := HAC.out k S hS
            obtain ⟨h, rfl, _, hhl, b0, b1, b2, b3, b4, b5, b6⟩ := HW.out k S hS
            have hbw : Below w7.heap.size w7 wr := HB8.out.trans (hbx.mono HB8.out.size)
            have q : ∀ o, wr.cell? ⟨g, o, none⟩ = w8.cell? ⟨g, o, none⟩ := fun o => hbx.cell (p := ⟨g, o, none⟩) hgl
            have r : ∀ o, wr.cell? ⟨h, o, none⟩ = w7.cell? ⟨h, o, none⟩ := fun o => hbw.cell (p := ⟨h, o, none⟩) hhl
            rw [← q] at a0 a1 a2 a3 a4 a5 a6
            rw [← r] at b0 b1 b2 b3 b4 b5 b6
            have CS := Lib.hid (sameSum_c S)
            obtain ⟨x0, x1, x2, x3, x4, x5, x6⟩ := S
            simp only [Sm.agg, Sm.cells] at CS
            have HBX := Lib.hid hbx
            have k0 : (0 : Int) ≤ (k : Int) := by omega
            have d1 : decide ((k : Int) < (N : Int)) = true := decide_eq_true (by omega)
            clear hS q r hbw hbx
            go_wp2_with fail
            go_still_tail 8, (by kernel_rfl)
            change wpList _ _ _ _ _ wr.drew
            go_wp2_with (go_at_call 8; refine (CS.out _).mono ?_; rintro e w9 ⟨rfl, hb9⟩; have HB9 := Lib.hid hb9; clear hb9)
            go_roundw
            case rel => exact ⟨k + 1, by omega, by go_num, HBX.out.trans ((Below.trans (Below.refl _ wr).drew HB9.out).mono HBX.out.size)⟩
            case measure => simp [intOf] <;> omega
          · have d1 : decide ((k : Int) < (N : Int)) = false := decide_eq_false (by omega)
            have HO : Hid (wr.ownsRow w7.heap.size 28 7 (.slice AA N cA) N (sms (groupsL ss2 ns))) := Lib.hid (own_base (own_below HAO.out hbx) hs7)
            have HBX : Hid (Below w7.heap.size w7 wr) := Lib.hid (HB8.out.trans (hbx.mono HB8.out.size))
            clear hbx HAC HAO
            go_wp2_with fail
            go_loopw [11] (fun i wx => ∃ (q : Nat) (ys : List Value), q ≤ N ∧ i = .int .i64 q ∧ wx.ownsRow w7.heap.size 28 7 (.slice AA N cA) N ys ∧ Below w7.heap.size w7 wx) (fun i _ => N - (intOf i).toNat)
            case atStart => exact ⟨0, _, by omega, rfl, HO.out, HBX.out⟩
            case round =>
              obtain ⟨q, ys, hq, rfl, hown, hbx⟩ := hrel
              by_cases hqn : q < N
              · obtain ⟨g, cap, hform, hg1, hg2⟩ := hown.form (by omega)
                cases hform
                have hyl := hown.1
                have key : ∀ o, o < 7 → ∃ y, wr.cell? ⟨g, q * 7 + o, none⟩ = some y := fun o ho => by
                  rw [hown.cellAt _ (by omega)]
                  exact ⟨_, List.getElem?_eq_getElem (by omega)⟩
                have hfz := hown.frozenAt
                obtain ⟨y0, a0⟩ := key 0 (by decide)
                obtain ⟨y1, a1⟩ := key 1 (by decide)
                obtain ⟨y2, a2⟩ := key 2 (by decide)
                obtain ⟨y3, a3⟩ := key 3 (by decide)
                obtain ⟨y4, a4⟩ := key 4 (by decide)
                obtain ⟨y5, a5⟩ := key 5 (by decide)
                obtain ⟨y6, a6⟩ := key 6 (by decide)
                have f0 := hfz (q * 7)
                have f1 := hfz (q * 7 + 1)
                have f2 := hfz (q * 7 + 2)
                have f3 := hfz (q * 7 + 3)
                have f4 := hfz (q * 7 + 4)
                have f5 := hfz (q * 7 + 5)
                have f6 := hfz (q * 7 + 6)
                have HO2 := Lib.hid hown
                have HBX2 := Lib.hid hbx
                have q0 : (0 : Int) ≤ (q : Int) := by omega
                have d2 : decide ((q : Int) < (N : Int)) = true := decide_eq_true (by omega)
                rw [Nat.add_zero] at a0
                clear hown hbx key hfz hyl
                go_wp2_with fail
                go_roundw
                case rel =>
                  exact ⟨q + 1, _, by omega, by go_num, (((((((HO2.out.stored (q * 7) (.string ⟨#[]⟩)).1.stored (q * 7 + 1) (.int .i64 (-1))).1.stored (q * 7 + 2) (.int .i64 0)).1.stored (q * 7 + 3) (.float .f64 0)).1.stored (q * 7 + 4) (.float .f64 0)).1.stored (q * 7 + 5) (.float .f64 0)).1.stored (q * 7 + 6) (.float .f64 0)).1,
                    ((((((HBX2.out.setCell (p := ⟨g, q * 7, none⟩) hg1 _).setCell (p := ⟨g, q * 7 + 1, none⟩) hg1 _).setCell (p := ⟨g, q * 7 + 2, none⟩) hg1 _).setCell (p := ⟨g, q * 7 + 3, none⟩) hg1 _).setCell (p := ⟨g, q * 7 + 4, none⟩) hg1 _).setCell (p := ⟨g, q * 7 + 5, none⟩) hg1 _).setCell (p := ⟨g, q * 7 + 6, none⟩) hg1 _⟩
                case measure => simp [intOf] <;> omega
              · have d2 : decide ((q : Int) < (N : Int)) = false := decide_eq_false (by omega)
                have HO2 := Lib.hid hown
                have HBX2 := Lib.hid hbx
                have hsw : w7.heap.size ≤ wr.heap.size := hbx.size
                clear hown hbx HO HBX
                go_wp2_with (first
                  | (at_builtin; refine wpList_append_own _ rfl _ _ 30 rfl w7.heap.size 28 i0 (.agg #[.string ByteArray.empty, .int .i64 0, .int .i64 0, .float .f64 0, .float .f64 0, .float .f64 0, .float .f64 0]) 7 64 Try.underlying30 hi hz0 hz1 hz2 rfl (by decide) _ N ys rfl (World.ownsRow.alloc HO2.out _) ⟨wr.heap.size, 0, none⟩ 2 2 [.string ⟨#[]⟩, .int .i64 (-1), .int .i64 0, .float .f64 0, .float .f64 0, .float .f64 0, .float .f64 0, .string ⟨#[]⟩, .int .i64 (-1), .int .i64 0, .float .f64 0, .float .f64 0, .float .f64 0, .float .f64 0] rfl rfl ?c1 ?c2 ?c3 ?c4 ?c5 ?_)
                  | go_in)
                case c1 =>
                  intro p u hp
                  rw [add_zero]
                  exact ((Row.new wr 28 [.string ⟨#[]⟩, .int .i64 (-1), .int .i64 0, .float .f64 0, .float .f64 0, .float .f64 0, .float .f64 0, .string ⟨#[]⟩, .int .i64 (-1), .int .i64 0, .float .f64 0, .float .f64 0, .float .f64 0, .float .f64 0]).cell p).trans hp
                case c2 => intro u hu; simp at hu; rcases hu with rfl | rfl | rfl | rfl | rfl | rfl | rfl | rfl | rfl | rfl | rfl | rfl | rfl | rfl <;> rfl
                case c3 => unfold maxLen; omega
                case c4 => omega
                case c5 => simp; omega
                intro v' w9 hown' hgrow _
                have HB9 : Hid (Below w7.heap.size w7 w9) := Lib.hid (HBX2.out.grown ((World.grownBy_alloc wr _ _).trans hgrow) (by omega) (fun k e => (HO2.out.lt k e).1))
                clear hown' hgrow
                go_wp2_with fail
                go_meet
                case rel => exact HB9.out
    · have d0 : decide ((t : Int) < 2) = false := decide_eq_false (by omega)
      have HBW : Hid (Below w.heap.size w wr) := Lib.hid (HB7.out.trans (hB.mono HB7.out.size))
      clear hB
      go_wp2_with fail
      refine (still22_c A3 A2 n2 c3 c2 ss2 _ HU.out HS.out hn2).mono ?_
      rintro e w14 ⟨rfl, d14, rfl⟩
      have HB14 := Lib.hid (below_drewN HBW.out d14)
      go_wp2
      go_ret
      exact ⟨rfl, HB14.out⟩
end Go.Proofs.Ytfiimmbpfdpjfaa
