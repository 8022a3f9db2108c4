/-
  The walk of TallyValues.
-/
import Derived.Test.YtplejggfeehbcaaTalF
import Derived.Test.YtplejggfeehbcaaTalOpen
namespace Go.Proofs.Ytplejggfeehbcaa
open Go.RowKit
set_option linter.unusedSimpArgs false

theorem flo_append (a b : List Nat) : flo (a ++ b) = flo a ++ flo b := by simp [flo]
set_option maxHeartbeats 4000000 in
set_option maxRecDepth 100000 in
theorem tallyValues_walk (A : Option Addr) (n c : Nat) (ss : List St) (k : Int) (w : World) (hx : Ss w A n ss ∧ n ≤ c ∧ (A = none → n = 0 ∧ c = 0) ∧ n * 64 ≤ 140737488351232) (_hk : (Lit.int .i64 k).wf = true) :
    Calls Try.prog 18 #[.slice A n c, .int .i64 k] w fun e w' => e = .returned (.bool true) ∧ Below w.heap.size w w' := by
  obtain ⟨i0, hi, hz0, hz1, hz2⟩ := info_parts infoF
  obtain ⟨hS, hnc, hA, hn⟩ := hx
  have HS := Lib.hid hS
  have HNC := Lib.hid hnc
  have HA := Lib.hid hA
  have HN := Lib.hid hn
  clear hS hnc hA hn
  go_enter Try.func18, Try.ntmps18
  go_wp2_with fail
  refine (awake22_c _).mono ?_
  rintro e w1 ⟨rfl, hb1⟩
  have HB1 := Lib.hid hb1
  have HS1 := Lib.hid (HS.out.below hb1)
  clear hb1
  go_wp2_with fail
  refine (cut22_c A n c ss w1 HS1.out HNC.out HA.out HN.out).mono ?_
  rintro e w1 ⟨⟨A2, n2, c2, ss2, rfl, hS2, hc2, hn2, hA2⟩, rfl⟩
  have HS2 := Lib.hid hS2
  have HA2 := Lib.hid hA2
  clear HS HNC HA HN HS1 hS2 hA2 hc2
  go_wp2_with fail
  refine (own22_c A2 n2 c2 ss2 w1 HS2.out HA2.out hn2).mono ?_
  rintro e w3 ⟨A3, c3, rfl, hU3, hb3⟩
  have HU3 := Lib.hid hU3
  have HS3 := Lib.hid (HS2.out.below hb3)
  have HB3 : Hid (Below w.heap.size w w3) := Lib.hid (HB1.out.trans (hb3.mono HB1.out.size))
  clear hU3 hb3 HS2 HA2 HB1
  have HXL : Hid ((valuesV ss2 k).length = n2) := Lib.hid (by simp [valuesV, HS3.out.len])
  have HXG : Hid (∀ (j : Nat) (s : St), ss2[j]? = some s → (valuesV ss2 k).getD j 0 = valueV s k) := Lib.hid (fun j s hs => by simp [valuesV, hs])
  have HXB := Lib.hid (valuesV_lt ss2 k)
  have CR := Lib.hid (refValues_c A2 n2 c2 ss2 k w3 HS3.out.cs HS3.out.len hn2)
  have CA := Lib.hid (fun w h => values_c A3 n2 c3 ss2 k w h HS3.out.len hn2)
  generalize valuesV ss2 k = xs at *
  go_wp2_with fail
  refine CR.out.mono ?_
  rintro e w4 ⟨A4, c4, rfl, hF4, hA4, hb4⟩
  have HF4 := Lib.hid hF4
  have HA4 := Lib.hid hA4
  have HU4 := Lib.hid (HU3.out.below hb4)
  have HS4 := Lib.hid (HS3.out.below hb4)
  have HB4 : Hid (Below w.heap.size w w4) := Lib.hid (HB3.out.trans (hb4.mono HB3.out.size))
  clear hF4 hA4 hb4 HU3 HS3 HB3 CR
  go_wp2_with fail
  refine (CA.out w4 HU4.out.cs).mono ?_
  rintro e w5 ⟨rfl, hr5, hb5⟩
  have HR5 := Lib.hid hr5
  have HF5 := Lib.hid (HF4.out.below hb5)
  have HU5 := Lib.hid (HU4.out.below hb5)
  have HS5 := Lib.hid (HS4.out.below hb5)
  have HB5 : Hid (Below w.heap.size w w5) := Lib.hid (HB4.out.trans (hb5.mono HB4.out.size))
  obtain ⟨b, hb⟩ : ∃ b, w4.heap.size = b := ⟨_, rfl⟩
  rw [hb] at HR5 ⊢
  have HFA : Hid (Fs w5 (some ⟨b, 0, none⟩) n2 xs) := Lib.hid (HXL.out ▸ Fs.of_row (xs := xs) (rest := []) (by rw [List.append_nil]; exact HR5.out) (by rw [HXL.out]; omega) HXB.out)
  have hbw : w.heap.size ≤ b := by rw [← hb]; exact HB4.out.size
  have HB45 : Hid (Below w4.heap.size w4 w5) := Lib.hid hb5
  have HBE := Lib.hid hb
  clear hr5 hb5 hb
  go_wp2_with fail
  refine (same22_c _ A4 n2 n2 c4 xs w5 HFA.out HF5.out hn2).mono ?_
  rintro e w6 ⟨rfl, d6, rfl⟩
  have HR6 := Lib.hid (HR5.out.drewN d6)
  have HB46 : Hid (Below w4.heap.size w4 (w5.drewN d6)) := Lib.hid (below_drewN HB45.out d6)
  clear HR5 HF5 HU5 HS5 HB5 HFA HB45
  go_wp2_with fail
  go_loopw [10] (fun i wr => ∃ (j : Nat) (ys : List Value), j ≤ n2 ∧ i = .int .i64 j ∧ ys.length = n2 ∧ Row wr b 24 ys ∧ Below w4.heap.size w4 wr) (fun i _ => n2 - (intOf i).toNat)
  case atStart => exact ⟨0, flo xs, by omega, rfl, by rw [flo_len, HXL.out], HR6.out, HB46.out⟩
  case round =>
    obtain ⟨j, ys, hj, rfl, hyl, hR, hB⟩ := hrel
    by_cases hlt : j < n2
    · have HR := Lib.hid hR
      have HB := Lib.hid hB
      have HY := Lib.hid hyl
      have c0 : wr.cell? ⟨b, j, none⟩ = some ys[j] := by rw [hR.cell, List.getElem?_eq_getElem (by omega)]
      have f0 := hR.frozen j
      generalize ys[j] = y0 at c0
      clear hR hB hyl
      go_wp2
      go_roundw
      case rel => exact ⟨j + 1, ys.set j (.float .f64 13830554455654793216), by omega, by go_num, by rw [List.length_set, HY.out], HR.out.set j _, HB.out.setCell (p := ⟨b, j, none⟩) (by rw [HBE.out]; exact Nat.le_refl _) _⟩
      case measure => simp [intOf]; omega
    · have hjn : j = n2 := by omega
      subst hjn
      have hown : wr.ownsRow b 24 1 (.slice (some ⟨b, 0, none⟩) j j) j ys := ⟨by omega, .inr ⟨b, j, ys.toArray, rfl, Nat.le_refl _, hR, Nat.le_refl _, by unfold maxLen; omega, by simp [hyl], by rw [Nat.mul_one]; exact List.take_of_length_le (Nat.le_of_eq hyl)⟩⟩
      have HO := Lib.hid hown
      have HB := Lib.hid hB
      have hbs : b < wr.heap.size := hR.lt
      clear hR hB hown
      go_wp2_with (first
        | (at_builtin; refine wpList_append_own _ rfl _ _ 31 rfl b 24 i0 (.float .f64 0) 1 8 Try.underlying31 hi hz0 hz1 hz2 rfl (by decide) _ j ys rfl (World.ownsRow.alloc HO.out _) ⟨wr.heap.size, 0, none⟩ 2 2 [.float .f64 13830554455654793216, .float .f64 13830554455654793216] rfl rfl ?c1 ?c2 ?c3 ?c4 ?c5 ?_)
        | go_in)
      case c1 =>
        intro q u hq
        match q, hq with
        | 0, hq => simp at hq; subst hq; exact (Row.new wr _ [_, _]).cell 0
        | 1, hq => simp at hq; subst hq; exact (Row.new wr _ [_, _]).cell 1
      case c2 => intro u hu; simp at hu; subst hu; rfl
      case c3 => unfold maxLen; omega
      case c4 => omega
      case c5 => simp; omega
      intro v' w8 hown' hgrow _
      have HB8 : Hid (Below w4.heap.size w4 w8) := Lib.hid ((HB.out.alloc HB.out.size _).grown hgrow (by have := HB.out.size; simp; omega) (fun q hq => by simp [Value.ownBlock] at hq; rw [HBE.out]; omega))
      have HF8 := Lib.hid (HF4.out.below HB8.out)
      have HU8 := Lib.hid (HU4.out.below HB8.out)
      have HS8 := Lib.hid (HS4.out.below HB8.out)
      clear hown' hgrow HO HB
      go_wp2_with fail
      refine (CA.out w8 HU8.out.cs).mono ?_
      rintro e w9 ⟨rfl, hr9, hb9⟩
      have HF9 := Lib.hid (HF8.out.below hb9)
      have HU9 := Lib.hid (HU8.out.below hb9)
      have HS9 := Lib.hid (HS8.out.below hb9)
      have HB9 : Hid (Below w4.heap.size w4 w9) := Lib.hid (HB8.out.trans (hb9.mono HB8.out.size))
      have HFA9 : Hid (Fs w9 (some ⟨w8.heap.size, 0, none⟩) j xs) := Lib.hid (HXL.out ▸ Fs.of_row (xs := xs) (rest := []) (by rw [List.append_nil]; exact hr9) (by rw [HXL.out]; omega) HXB.out)
      clear hr9 hb9 HF8 HU8 HS8 HB8
      go_wp2_with fail
      refine (same22_c _ A4 j j c4 xs w9 HFA9.out HF9.out hn2).mono ?_
      rintro e w10 ⟨rfl, d10, rfl⟩
      have HB10 : Hid (Below w4.heap.size w4 (w9.drewN d10)) := Lib.hid (below_drewN HB9.out d10)
      clear HF9 HU9 HS9 HB9 HFA9
      go_wp2_with fail
      go_loopw [13, 14] (fun i _ wr => ∃ q : Nat, q ≤ j ∧ i = .int .i64 q ∧ Below w4.heap.size w4 wr) (fun i _ _ => j - (intOf i).toNat)
      case atStart => exact ⟨0, by omega, rfl, HB10.out⟩
      case round =>
        obtain ⟨q, hq, rfl, hB⟩ := hrel
        by_cases hqj : q < j
        · obtain ⟨s, hs⟩ : ∃ s, ss2[q]? = some s := ⟨_, List.getElem?_eq_getElem (by rw [HS4.out.len]; exact hqj)⟩
          obtain ⟨ad, hA, hcell⟩ := (HS4.out.below hB).cs (by rw [sts_len, HS4.out.len]; omega)
          obtain ⟨ae, hae⟩ : ∃ ae, ad.add (q * 7) = ae := ⟨_, rfl⟩
          obtain ⟨a0, a1, a2, a3, a4, a5, a6⟩ := st_at hcell hs hae
          obtain ⟨ad4, h4⟩ := (HF4.out.below hB).get
          obtain ⟨hA4', hc4⟩ := h4 (by omega)
          have cw := hc4 q hqj
          rw [HXG.out q s hs] at cw
          have CV := Lib.hid (value_c s k)
          obtain ⟨V, hV⟩ : ∃ V, valueV s k = V := ⟨_, rfl⟩
          rw [hV] at CV cw
          have CB := Lib.hid (bits_c V V)
          rw [decide_eq_true rfl] at CB
          obtain ⟨v0, v1, v2, v3, v4, v5, v6⟩ := s
          have j0 : (0 : Int) ≤ (q : Int) := by omega
          have HBq := Lib.hid hB
          subst hA
          subst hA4'
          clear hB hcell hs hV h4 hc4 CA HS4 HU4 HF4 HA4
          go_wp2_with fail
          go_region_law (first
            | (go_simp; go_at_call 74; refine (CV.out _).mono ?_; rintro e w11 ⟨rfl, hb11⟩; have hb11' : Below wr.heap.size wr w11 := Below.trans (Below.refl _ wr).drew hb11; have cw11 := (hb11'.cell (p := ad4.add q) (cell_lt cw)).trans cw; have HB11 := Lib.hid hb11'; clear hb11 hb11')
            | (go_simp; go_at_call 23; refine (CB.out _).mono ?_; rintro e w12 ⟨rfl, rfl⟩))
          all_goals (
            go_wp2
            go_roundw
            case rel => exact ⟨q + 1, by omega, by go_num, HBq.out.trans (HB11.out.mono HBq.out.size)⟩
            case measure => simp [intOf]; omega)
        · have hqe : q = j := by omega
          subst hqe
          have HBq := Lib.hid hB
          have HU := Lib.hid (HU4.out.below hB)
          have HSq := Lib.hid (HS4.out.below hB)
          clear hB
          go_wp2_with fail
          refine (still22_c A3 A2 q c3 c2 ss2 wr HU.out HSq.out hn2).mono ?_
          rintro e w14 ⟨rfl, d14, rfl⟩
          go_wp2
          go_ret
          exact ⟨rfl, below_drewN (HB4.out.trans (HBq.out.mono HB4.out.size)) d14⟩
end Go.Proofs.Ytplejggfeehbcaa
