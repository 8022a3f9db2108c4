/-
  The walk of TallyParts.
-/
import Derived.Test.YtfiimmbpfdpjfaaSumO
import Derived.Test.YtfiimmbpfdpjfaaSumK
import Derived.Deep.DeepCutAuto
import Derived.Deep.CutBlock
import Derived.StillTailTactics
namespace Go.Proofs.Ytfiimmbpfdpjfaa
open Go.RowKit
set_option linter.unusedSimpArgs false

theorem gd_of (os : List On) (h : os.length ≤ 1000) : Gd (os.map On.st) :=
  ⟨by rw [List.length_map]; exact h, fun s hs => by
    obtain ⟨o, _, rfl⟩ := List.mem_map.1 hs
    exact ⟨kp o.raw, rfl, kp_le _⟩⟩
set_option maxHeartbeats 8000000 in
set_option maxRecDepth 100000 in
theorem parts_walk (A : Option Addr) (n c : Nat) (os : List On) (w : World) (hx : Oss w A n os ∧ n * 32 ≤ 140737488351232) :
    Calls Try.prog 4 #[.slice A n c] w fun e w' => e = .returned (.bool true) ∧ Below w.heap.size w w' := by
  obtain ⟨i0, hi, hz0, hz1, hz2⟩ := info_parts infoS
  obtain ⟨hO, hn⟩ := hx
  have hn2 : n ≤ 4398046511000 := by omega
  have HO := Lib.hid hO
  have HN := Lib.hid hn
  clear hO hn
  go_enter Try.func4, Try.ntmps4
  go_wp2_with fail
  refine (awake22_c _).mono ?_
  rintro e w1 ⟨rfl, hb1⟩
  have HB1 := Lib.hid hb1
  clear hb1
  go_wp2_with fail
  go_loopw [4, 5, 6, 7] (fun v b f i wr => ∃ k : Nat, k ≤ n ∧ k ≤ 1000 ∧ i = .int .i64 k ∧ b = .int .i64 (tot bk ((os.take k).map On.st) : Nat) ∧ f = .int .i64 (tot finB ((os.take k).map On.st) : Nat) ∧ wr.ownsRow w.heap.size 38 7 v k (sts ((os.take k).map On.st)) ∧ Below w.heap.size w wr) (fun _ _ _ i _ => n - (intOf i).toNat)
  case atStart => exact ⟨0, by omega, by omega, rfl, rfl, rfl, World.ownsRow_nil _ _ _ _, HB1.out⟩
  case round =>
    obtain ⟨k, hk, hk2, rfl, rfl, rfl, hown, hB⟩ := hrel
    have hgd := gd_of (os.take k) (by rw [List.length_take]; omega)
    have hsum : tot bk ((os.take k).map On.st) ≤ 1000000000 := hgd.tot
    have hfin : tot finB ((os.take k).map On.st) ≤ 1000 := by rw [tot_fin]; exact Nat.le_trans (finK_le _) hgd.few
    have HGD := Lib.hid hgd
    clear hgd
    go_upto_region 6 with (fail)
    go_cut [25] from 18 to 25 (fun v wd => v = .bool (decide (k < n ∧ k < 1000)) ∧ wd = wr)
    case first =>
      clear hown hB
      by_cases hlt : k < n
      · have d1 : decide ((k : Int) < (n : Int)) = true := decide_eq_true (by omega)
        by_cases hlt2 : k < 1000
        · have d2 : decide ((k : Int) < 1000) = true := decide_eq_true (by omega)
          have hd : Hid (decide (k < n ∧ k < 1000) = true) := Lib.hid (decide_eq_true ⟨hlt, hlt2⟩)
          go_wp2
          go_meet
          case rel => exact ⟨by rw [hd.out], rfl⟩
        · have d2 : decide ((k : Int) < 1000) = false := decide_eq_false (by omega)
          have hd : Hid (decide (k < n ∧ k < 1000) = false) := Lib.hid (decide_eq_false (by omega))
          go_wp2
          go_meet
          case rel => exact ⟨by rw [hd.out], rfl⟩
      · have d1 : decide ((k : Int) < (n : Int)) = false := decide_eq_false (by omega)
        have hd : Hid (decide (k < n ∧ k < 1000) = false) := Lib.hid (decide_eq_false (by omega))
        go_wp2
        go_meet
        case rel => exact ⟨by rw [hd.out], rfl⟩
    case rest =>
      obtain ⟨rfl, rfl⟩ := hcut
      by_cases hboth : k < n ∧ k < 1000
      · obtain ⟨hlt, hlt2⟩ := hboth
        rw [decide_eq_true (⟨hlt, hlt2⟩ : k < n ∧ k < 1000)]
        obtain ⟨o, ho⟩ : ∃ o, os[k]? = some o := ⟨_, List.getElem?_eq_getElem (by rw [HO.out.len]; exact hlt)⟩
        obtain ⟨ad, hA, c0, c1, c2⟩ := (HO.out.below hB).at_ k o ho
        have hab : ∀ a, (ad.add (k * 3)) = a → a.block < w.heap.size := fun a ha => by
          obtain ⟨ad', e, h0, _⟩ := HO.out.at_ k o ho
          rw [hA] at e
          cases e
          rw [← ha]
          exact cell_lt h0
        obtain ⟨hr1, hr2, hr3⟩ := HO.out.okn o (List.mem_of_getElem? ho)
        subst hA
        obtain ⟨ae, hae⟩ : ∃ ae, ad.add (k * 3) = ae := ⟨_, rfl⟩
        have hab := hab ae hae
        rw [hae] at c0
        rw [← addr_add, hae] at c1 c2
        simp [Addr.add] at c1 c2
        have HNX : Hid ((os.take (k + 1)).map On.st = (os.take k).map On.st ++ [o.st]) := Lib.hid (by rw [take_next ho, List.map_append]; rfl)
        have HB := Lib.hid hB
        have HOW := Lib.hid hown
        have hsz : w.heap.size ≤ wc.heap.size := hB.size
        obtain ⟨fn, z, fin⟩ := o
        obtain ⟨y, hy⟩ : ∃ y, (if z < 0 then -(z + 1) else z) = y := ⟨_, rfl⟩
        have HY := Lib.hid hy
        have hyb : 0 ≤ y ∧ y ≤ 9223372036854775807 := by simp only at hr1 hr2; rw [← hy]; split <;> omega
        have hkc := (kp_cast z).symm
        rw [hy] at hkc
        obtain ⟨m, hm⟩ : ∃ m, kp z = m := ⟨_, rfl⟩
        have hm2 : m ≤ 1000000 := by rw [← hm]; exact kp_le z
        rw [hm] at hkc
        have HM := Lib.hid hm
        obtain ⟨B, hBS⟩ : ∃ B, tot bk ((os.take k).map On.st) = B := ⟨_, rfl⟩
        obtain ⟨F, hFS⟩ : ∃ F, tot finB ((os.take k).map On.st) = F := ⟨_, rfl⟩
        rw [hBS] at hsum ⊢
        rw [hFS] at hfin ⊢
        have HBS := Lib.hid hBS
        have HFS := Lib.hid hFS
        have k0 : (0 : Int) ≤ (k : Int) := by omega
        simp only at c0 c1 c2 hr1 hr2 hr3
        clear hB hown ho hy hm hBS hFS
        go_upto_if 34 with (fail)
        go_cut [8] (fun v wd => v = .int .i64 y ∧ wd = wc)
        case first =>
          by_cases hz0 : z < 0
          · go_wp2
            go_meet
            case rel =>
              have := HY.out
              rw [if_pos hz0] at this
              exact ⟨by first | rfl | (congr 1 <;> omega), rfl⟩
          · go_wp2
            go_meet
            case rel =>
              have := HY.out
              rw [if_neg (by omega)] at this
              exact ⟨by first | rfl | (congr 1 <;> omega), rfl⟩
        case rest =>
          obtain ⟨rfl, rfl⟩ := hcut
          obtain ⟨G, hG⟩ : ∃ G : Nat, F + (if fin = true then 1 else 0) = G := ⟨_, rfl⟩
          have HG := Lib.hid hG
          have hG2 : G ≤ 1001 := by rw [← hG]; split <;> omega
          clear hG
          go_upto_if 47 with (fail)
          go_cut [6] (fun v wd => v = .int .i64 (G : Int) ∧ wd = wc)
          case first =>
            cases fin with
            | true =>
              go_wp2
              go_meet
              case rel =>
                have : F + 1 = G := by simpa using HG.out
                exact ⟨by first | rfl | (congr 1; omega), rfl⟩
            | false =>
              go_wp2
              go_meet
              case rel =>
                have : F = G := by simpa using HG.out
                exact ⟨by first | rfl | (congr 1; omega), rfl⟩
          case rest =>
            obtain ⟨rfl, rfl⟩ := hcut
            go_wp2_with fail
            have HOA : Hid (∀ o, (wc.alloc o).drew.ownsRow w.heap.size 38 7 u4 k (sts ((os.take k).map On.st))) := Lib.hid (fun o => World.ownsRow.drew (World.ownsRow.alloc HOW.out o))
            have NA : Hid (∀ (j : Nat) (u : Value), ([.int .i64 0, .string fn, .int .i64 m, .int .i64 0, .int .i64 0, .int .i64 0, .bool fin] : List Value)[j]? = some u → (wc.alloc (Obj.cells #[.int .i64 0, .string fn, .int .i64 m, .int .i64 0, .int .i64 0, .int .i64 0, .bool fin] 38)).drew.cell? ((⟨wc.heap.size, 0, none⟩ : Addr).add j) = some u) := Lib.hid (fun j u hu => World.news_of_block (w := wc.alloc (Obj.cells #[.int .i64 0, .string fn, .int .i64 m, .int .i64 0, .int .i64 0, .int .i64 0, .bool fin] 38)) (cs := #[.int .i64 0, .string fn, .int .i64 m, .int .i64 0, .int .i64 0, .int .i64 0, .bool fin]) (t := 38) (fr := (0, 0)) (heap_alloc_new wc _) j u hu)
            have HGA : Hid (∀ o, wc.grownBy (wc.alloc o).drew u4.ownBlock) := Lib.hid (fun o => ⟨(World.grownBy_alloc wc o u4.ownBlock).os, (World.grownBy_alloc wc o u4.ownBlock).tape, (World.grownBy_alloc wc o u4.ownBlock).output, (World.grownBy_alloc wc o u4.ownBlock).size, (World.grownBy_alloc wc o u4.ownBlock).block⟩)
            have HFB : Hid (∀ k, u4.ownBlock = some k → w.heap.size ≤ k) := Lib.hid (fun k e => (HOW.out.lt k e).1)
            have HSD : Hid ((∀ u ∈ ([.int .i64 0, .string fn, .int .i64 m, .int .i64 0, .int .i64 0, .int .i64 0, .bool fin] : List Value), u.oneCell' = true) ∧ 0 < 1 ∧ k + 1 ≤ maxLen ∧ (k + 1) * 64 ≤ 140737488355328 ∧ (∀ o, w.heap.size ≤ (wc.alloc o).drew.heap.size) ∧ (∀ o, (wc.alloc o).drew.heap.size = wc.heap.size + 1)) := Lib.hid ⟨by simp [Value.oneCell'], by decide, by unfold maxLen; omega, by omega, fun o => by simp; omega, fun o => by simp⟩
            go_region_held3 (fun w' => w'.cell? ae = some (.string fn) ∧ w'.cell? ⟨ae.block, ae.off + 2, none⟩ = some (.bool fin)) (go_keep)
              ((refine step_append_lies _ (by rfl) _ _ _ (by rfl) w.heap.size 38 i0 (.agg #[.int .i64 0, .string ByteArray.empty, .int .i64 0, .int .i64 0, .int .i64 0, .int .i64 0, .bool false]) 7 64 Try.underlying22 hi hz0 hz1 hz2 (by rfl) (by decide) u4 k (sts ((os.take k).map On.st)) (by rfl) (HOA.out _) ⟨wc.heap.size, 0, none⟩ 1 1 [.int .i64 0, .string fn, .int .i64 m, .int .i64 0, .int .i64 0, .int .i64 0, .bool fin] (by rfl) (by rfl) NA.out HSD.out.1 HSD.out.2.1 HSD.out.2.2.1 HSD.out.2.2.2.1 (HSD.out.2.2.2.2.1 _) (wc.heap.size + 1) (HSD.out.2.2.2.2.2 _) ?_; intro g cap w2 hown' hgrow hat hlt'
                have HB2 : Hid (Below w.heap.size w w2) := Lib.hid (HB.out.grown ((HGA.out _).trans hgrow) hsz HFB.out)
                have HO2 := Lib.hid hown'
                have c0 : w2.cell? ae = some (.string fn) := (HB2.out.cell (p := ae) hab).trans ((HB.out.cell (p := ae) hab).symm.trans c0)
                have c2 : w2.cell? ⟨ae.block, ae.off + 2, none⟩ = some (.bool fin) := (HB2.out.cell (p := ⟨ae.block, ae.off + 2, none⟩) hab).trans ((HB.out.cell (p := ⟨ae.block, ae.off + 2, none⟩) hab).symm.trans c2)
                clear hown' hgrow hat hlt'))
            go_wp2_with fail
            go_roundw
            case rel =>
              have e1 : tot bk ((os.take (k + 1)).map On.st) = B + m := by
                rw [HNX.out, tot_append, HBS.out]
                show B + (kp z + 0) = _
                rw [HM.out]; rfl
              have e2 : tot finB ((os.take (k + 1)).map On.st) = G := by
                rw [HNX.out, tot_append, HFS.out, ← HG.out]
                rfl
              refine ⟨k + 1, by omega, by omega, by go_num, ?_, ?_, ?_, HB2.out⟩
              · rw [e1]; go_num
              · rw [e2]
              · rw [HNX.out, sts_append, sts_single]
                have e3 : (On.st ⟨fn, z, fin⟩).cells = [.int .i64 0, .string fn, .int .i64 m, .int .i64 0, .int .i64 0, .int .i64 0, .bool fin] := by
                  unfold On.st St.cells
                  simp only [HM.out]
                rw [e3]
                exact HO2.out
            case measure => simp [intOf] <;> omega
      · rw [decide_eq_false hboth]
        clear hboth
        obtain ⟨ss, hss⟩ : ∃ ss, (os.take k).map On.st = ss := ⟨_, rfl⟩
        rw [hss] at hown hsum hfin HGD ⊢
        have hlen : ss.length = k := by rw [← hss, List.length_map, List.length_take, HO.out.len]; omega
        have HZ : Hid (∀ s ∈ ss, s.fn.size ≤ maxLen) := Lib.hid (fun s hs => by
          rw [← hss] at hs
          obtain ⟨o, ho, rfl⟩ := List.mem_map.1 hs
          exact (HO.out.okn o (List.mem_of_mem_take ho)).2.2)
        obtain ⟨A4, c4, rfl, hS⟩ := owned_ss hown
        have HS := Lib.hid hS
        have HB := Lib.hid hB
        have HLN := Lib.hid hlen
        have CO := Lib.hid (of_c A4 k c4 ss wc hS hk2)
        obtain ⟨S, hOF⟩ : ∃ S, ofS ss = S := ⟨_, rfl⟩
        rw [hOF] at CO
        obtain ⟨x0, x1, x2, x3, x4, x5, x6⟩ := S
        obtain ⟨B, hBS⟩ : ∃ B, tot bk ss = B := ⟨_, rfl⟩
        have hx := hOF
        unfold ofS sumS at hx
        injection hx with hx0 hx1 hx2 hx3 hx4 hx5 hx6
        rw [sumV_tot HGD.out, hBS] at hx3
        rw [hlen] at hx1
        obtain ⟨F, hFS⟩ : ∃ F, tot finB ss = F := ⟨_, rfl⟩
        rw [← tot_fin, hFS] at hx2
        subst hx0
        subst hx1
        subst hx2
        rw [hBS] at hsum ⊢
        rw [hFS] at hfin ⊢
        have HBS := Lib.hid hBS
        have HFS := Lib.hid hFS
        have HX3 := Lib.hid hx3
        have hfw : floatOfInt .f64 (B : Int) = x3 := (float_W B).trans hx3
        have ho1 : (Fl.F.order x3 x3 == some .eq) = true := by rw [← hx3, eq_W (by omega) (by omega)]; exact decide_eq_true rfl
        have ho2 : Fl.F.order x3 x3 = some .eq := eq_of_beq ho1
        clear hown hB hS hss hx3 hx4 hx5 hx6 hOF hlen hBS hFS ho1
        simp only [Sm.agg, Sm.cells] at CO
        go_wp2_with fail
        refine CO.out.mono ?_
        rintro e w2 ⟨rfl, hb2⟩
        have HS2 := Lib.hid (HS.out.below hb2)
        have HB2 : Hid (Below w.heap.size w w2) := Lib.hid (HB.out.trans (hb2.mono HB.out.size))
        have hs2 : w.heap.size ≤ w2.heap.size := HB2.out.size
        clear hb2 HS HB CO
        go_upto_region 17 with (fail)
        have hR3 := Row.new w2 28 [.string ByteArray.empty, .int .i64 (k : Nat), .int .i64 (F : Nat), .float .f64 x3, .float .f64 x4, .float .f64 x5, .float .f64 x6]
        change Row (w2.alloc (Obj.cells #[.string ByteArray.empty, .int .i64 (k : Nat), .int .i64 (F : Nat), .float .f64 x3, .float .f64 x4, .float .f64 x5, .float .f64 x6] 28)) _ _ _ at hR3
        have HB3 := Lib.hid (HB2.out.alloc hs2 (Obj.cells #[.string ByteArray.empty, .int .i64 (k : Nat), .int .i64 (F : Nat), .float .f64 x3, .float .f64 x4, .float .f64 x5, .float .f64 x6] 28))
        have HS3 := Lib.hid (HS2.out.below ((Below.refl _ w2).alloc (Nat.le_refl _) (Obj.cells #[.string ByteArray.empty, .int .i64 (k : Nat), .int .i64 (F : Nat), .float .f64 x3, .float .f64 x4, .float .f64 x5, .float .f64 x6] 28)))
        generalize w2.alloc (Obj.cells #[.string ByteArray.empty, .int .i64 (k : Nat), .int .i64 (F : Nat), .float .f64 x3, .float .f64 x4, .float .f64 x5, .float .f64 x6] 28) = w3 at *
        obtain ⟨bo, hbo⟩ : ∃ bo, w2.heap.size = bo := ⟨_, rfl⟩
        rw [hbo] at hR3 ⊢
        have HR3 := Lib.hid hR3
        clear hR3 hbo HS2 HB2 hs2
        go_wp2_with fail
        refine (groups_c A4 k c4 ss w3 HS3.out hk2 HZ.out).mono ?_
        rintro e w4 ⟨vg, ns, rfl, hns, hnl, hown, hb4⟩
        have HR4 := Lib.hid (HR3.out.grown hb4)
        have HS4 := Lib.hid (HS3.out.below hb4)
        have HB4 : Hid (Below w.heap.size w w4) := Lib.hid (HB3.out.trans (hb4.mono HB3.out.size))
        obtain ⟨AW, cW, rfl, hW⟩ := own_sums hown
        have HW := Lib.hid hW
        have HNS := Lib.hid hns
        have HGL : Hid ((groupsL ss ns).length = ns.length) := Lib.hid (groupsL_len ss ns)
        obtain ⟨N, hN⟩ : ∃ N, ns.length = N := ⟨_, rfl⟩
        rw [hN] at HGL hnl ⊢
        have HNN := Lib.hid hN
        clear hb4 HR3 HS3 HB3 hns hown hW hN
        obtain ⟨⟨b0, b1, b2, b3, b4, b5, b6⟩, _⟩ := HR4.out.at7
        go_wp2_with fail
        go_loopw [11, 12, 13, 14, 15, 16] (fun gs dn sm i _ _ wx => ∃ q : Nat, q ≤ N ∧ i = .int .i64 q ∧ gs = .int .i64 (pre one_ ss ns q : Nat) ∧ dn = .int .i64 (pre finB ss ns q : Nat) ∧ sm = .float .f64 (Fl.W (pre bk ss ns q)) ∧ Below w4.heap.size w4 wx) (fun _ _ _ i _ _ _ => N - (intOf i).toNat)
        case atStart => exact ⟨0, by omega, rfl, rfl, rfl, by show _ = Value.float .f64 (Fl.W 0); rw [Fl.W_zero], Below.refl _ _⟩
        case round =>
          obtain ⟨q, hq, rfl, rfl, rfl, rfl, hbx⟩ := hrel
          have hp1 : pre one_ ss ns q ≤ 1000 := by have := pre_le one_ HNS.out q; rw [tot_one, HLN.out] at this; omega
          have hp2 : pre finB ss ns q ≤ 1000 := by have := pre_le finB HNS.out q; rw [HFS.out] at this; omega
          have hp3 : pre bk ss ns q ≤ 1000000000 := by have := pre_le bk HNS.out q; rw [HBS.out] at this; omega
          by_cases hqn : q < N
          · obtain ⟨nm, hnm⟩ : ∃ nm, ns[q]? = some nm := ⟨_, List.getElem?_eq_getElem (by rw [HNN.out]; exact hqn)⟩
            have hgq : (groupsL ss ns)[q]? = some (sumS (named nm ss) nm (byV (sumV (valuesV (named nm ss) 1)) (sumV (valuesV ss 1)))) := by unfold groupsL; rw [List.getElem?_map, hnm]; rfl
            obtain ⟨g, hgA, _, hgl, a0, a1, a2, a3, a4, a5, a6⟩ := HW.out q _ hgq
            have qq : ∀ o, wr.cell? ⟨g, o, none⟩ = w4.cell? ⟨g, o, none⟩ := fun o => hbx.cell (p := ⟨g, o, none⟩) hgl
            rw [← qq] at a0 a1 a2 a3 a5
            simp only [sumS, sumV_tot HGD.out, sumV_tot (HGD.out.sub nm), HBS.out] at a0 a1 a2 a3 a5
            have hpr : ∀ y nm', ns[y]? = some nm' → wr.cell? ⟨g, y * 7, none⟩ = some (.string nm') := fun y nm' hy => by
              have hgy : (groupsL ss ns)[y]? = some (sumS (named nm' ss) nm' (byV (sumV (valuesV (named nm' ss) 1)) (sumV (valuesV ss 1)))) := by unfold groupsL; rw [List.getElem?_map, hy]; rfl
              obtain ⟨g', hgA', _, _, z0, _⟩ := HW.out y _ hgy
              rw [hgA] at hgA'
              cases hgA'
              rw [qq]; exact z0
            have HPR := Lib.hid hpr
            have ha1 : tot bk (named nm ss) ≤ tot bk ss := by have e1 := pre_next bk (ss := ss) hnm; have := pre_le bk HNS.out (q + 1); omega
            have hsh := share_W (a := tot bk (named nm ss)) (b := B) (by rw [← HBS.out]; exact ha1) (by omega)
            have n1 := pre_next one_ (ss := ss) hnm
            have n2 := pre_next finB (ss := ss) hnm
            have n3 := pre_next bk (ss := ss) hnm
            have m1 := pre_le one_ HNS.out (q + 1)
            have m2 := pre_le finB HNS.out (q + 1)
            have m3 := pre_le bk HNS.out (q + 1)
            rw [tot_one, HLN.out] at m1
            rw [HBS.out] at m3
            rw [HFS.out] at m2
            rw [tot_one] at n1
            rw [tot_fin] at n2
            obtain ⟨L, hL⟩ : ∃ L, (named nm ss).length = L := ⟨_, rfl⟩
            obtain ⟨E, hE⟩ : ∃ E, finK (named nm ss) = E := ⟨_, rfl⟩
            obtain ⟨X, hX⟩ : ∃ X, tot bk (named nm ss) = X := ⟨_, rfl⟩
            rw [hL] at n1 a1
            rw [hE] at n2 a2
            rw [hX] at n3 a3 a5 hsh
            obtain ⟨P1, hP1⟩ : ∃ P, pre one_ ss ns q = P := ⟨_, rfl⟩
            obtain ⟨P2, hP2⟩ : ∃ P, pre finB ss ns q = P := ⟨_, rfl⟩
            obtain ⟨P3, hP3⟩ : ∃ P, pre bk ss ns q = P := ⟨_, rfl⟩
            rw [hP1] at n1 hp1 ⊢
            rw [hP2] at n2 hp2 ⊢
            rw [hP3] at n3 hp3 ⊢
            rw [n1] at m1
            rw [n2] at m2
            rw [n3] at m3
            have hfa : ∀ v, fa .add (Fl.W P3) (Fl.W X) v = Fl.W (P3 + X) := fun v => fa_some (show floatBits .add .f64 (Fl.W P3) (Fl.W X) = some (Fl.W (P3 + X)) from Fl.add_W (by omega)) v
            have hLp : 0 < L := by
              obtain ⟨s, hs1, hs2⟩ := (HNS.out.mem nm).1 (List.mem_of_getElem? hnm)
              rw [← hL]
              exact List.length_pos_of_mem (List.mem_filter.2 ⟨hs1, decide_eq_true hs2⟩)
            obtain ⟨sh, hshE⟩ : ∃ sh, byV (Fl.W X) (Fl.W B) = sh := ⟨_, rfl⟩
            rw [hshE] at a5 hsh
            have HN1 := Lib.hid n1
            have HN2 := Lib.hid n2
            have HN3 := Lib.hid n3
            have HL := Lib.hid hL
            have HSH := Lib.hid hsh
            have HBX := Lib.hid hbx
            have HNM := Lib.hid hnm
            have d1 : decide ((q : Int) < (N : Int)) = true := decide_eq_true (by omega)
            have q0 : (0 : Int) ≤ (q : Int) := by omega
            obtain ⟨s2, hs2⟩ : ∃ s2, Fl.W (P3 + X) = s2 := ⟨_, rfl⟩
            rw [hs2] at hfa
            have HS2E := Lib.hid hs2
            clear hs2
            generalize Fl.W P3 = s1 at *
            generalize Fl.W X = sx at *
            subst hgA
            clear hgq a4 a6 qq hpr ha1 hsh n1 n2 n3 hL hE hX hP1 hP2 hP3 hshE hbx hnm
            obtain ⟨wo, hwo⟩ : ∃ wo, wo = wr := ⟨_, rfl⟩
            subst hwo
            go_wp2_with fail
            go_loopw [15, 16] (fun c j wx => ∃ p : Nat, p ≤ k ∧ j = .int .i64 p ∧ c = .int .i64 ((named nm (ss.take p)).length : Nat) ∧ ∃ d, wx = wo.drewN d) (fun _ j _ => k - (intOf j).toNat)
            case atStart => exact ⟨0, by omega, rfl, rfl, _, rfl⟩
            case round =>
              obtain ⟨p, hp, rfl, rfl, d, rfl⟩ := hrel
              have hcl : (named nm (ss.take p)).length ≤ p := Nat.le_trans (named_len _ _) (by rw [List.length_take]; omega)
              by_cases hpk : p < k
              · obtain ⟨s, hs⟩ : ∃ s, ss[p]? = some s := ⟨_, List.getElem?_eq_getElem (by rw [HLN.out]; exact hpk)⟩
                obtain ⟨ad, hA, hcell⟩ := (HS4.out.below HBX.out).cs (by rw [sts_len, HLN.out]; omega)
                obtain ⟨ae, hae⟩ : ∃ ae, ad.add (p * 7) = ae := ⟨_, rfl⟩
                obtain ⟨_, e1, _, _, _, _, _⟩ := st_at hcell hs hae
                obtain ⟨f, hf⟩ : ∃ f, s.fn = f := ⟨_, rfl⟩
                rw [hf] at e1
                have HTK : Hid (named nm (ss.take (p + 1)) = if f = nm then named nm (ss.take p) ++ [s] else named nm (ss.take p)) := Lib.hid (by
                  rw [take_next hs]
                  unfold named
                  rw [List.filter_append]
                  by_cases e : f = nm
                  · rw [if_pos e]; simp [hf, e]
                  · rw [if_neg e]; simp [hf, e])
                obtain ⟨C, hC⟩ : ∃ C, (named nm (ss.take p)).length = C := ⟨_, rfl⟩
                rw [hC] at hcl ⊢
                have HC := Lib.hid hC
                have p0 : (0 : Int) ≤ (p : Int) := by omega
                have d2 : decide ((p : Int) < (k : Int)) = true := decide_eq_true (by omega)
                subst hA
                clear hcell hs hf hC
                by_cases hfn : f = nm
                · have he : (f.toList == nm.toList) = true := by rw [toList_beq]; exact decide_eq_true hfn
                  have HT2 : Hid ((named nm (ss.take (p + 1))).length = C + 1) := Lib.hid (by rw [HTK.out, if_pos hfn, List.length_append, HC.out]; rfl)
                  clear hfn
                  go_wp2_with fail
                  go_quiet (fail)
                  go_wp2_with fail
                  go_roundw
                  case rel => exact ⟨p + 1, by omega, by go_num, by rw [HT2.out]; go_num, _, rfl⟩
                  case measure => simp [intOf] <;> omega
                · have he : (f.toList == nm.toList) = false := by rw [toList_beq]; exact decide_eq_false hfn
                  have HT2 : Hid ((named nm (ss.take (p + 1))).length = C) := Lib.hid (by rw [HTK.out, if_neg hfn, HC.out])
                  clear hfn
                  go_wp2_with fail
                  go_quiet (fail)
                  go_wp2_with fail
                  go_roundw
                  case rel => exact ⟨p + 1, by omega, by go_num, by rw [HT2.out], _, rfl⟩
                  case measure => simp [intOf] <;> omega
              · have d2 : decide ((p : Int) < (k : Int)) = false := decide_eq_false (by omega)
                have hall : ss.take p = ss := List.take_of_length_le (by rw [HLN.out]; omega)
                rw [hall, HL.out]
                clear hall hcl
                have l0 : ((L : Int) == 0) = false := by rw [beq_eq_false_iff_ne]; omega
                have l1 : ((L : Int) != (L : Int)) = false := by simp
                have l2 : (L == 0) = false := by rw [beq_eq_false_iff_ne]; omega
                have l3 : decide (L = 0) = false := decide_eq_false (by omega)
                have l4 : (L != L) = false := by simp
                go_upto_region 35 with (fail)
                go_cut [170] from 142 to 170 (fun v wx => v = .bool false ∧ ∃ d', wx = wo.drewN d')
                case first =>
                  by_cases hq0 : q = 0
                  · have d3 : decide ((0 : Int) < (q : Int)) = false := decide_eq_false (by omega)
                    have d3' : decide (0 < q) = false := decide_eq_false (by omega)
                    clear hq0
                    go_quiet (fail)
                    go_wp2_with fail
                    go_meet
                    case rel => exact ⟨rfl, _, World.drewN_drewN ..⟩
                  · have d3 : decide ((0 : Int) < (q : Int)) = true := decide_eq_true (by omega)
                    have d3' : decide (0 < q) = true := decide_eq_true (by omega)
                    obtain ⟨y, hy⟩ : ∃ y, q - 1 = y := ⟨_, rfl⟩
                    obtain ⟨pv, hpv⟩ : ∃ pv, ns[y]? = some pv := ⟨_, List.getElem?_eq_getElem (by rw [HNN.out]; omega)⟩
                    have cp := HPR.out y pv hpv
                    have hyi : (q : Int) - 1 = (y : Int) := by omega
                    have hyn : y < N := by omega
                    have hord : Op.bytesLess pv.toList nm.toList = true := by
                      have hlt1 := (List.getElem?_eq_some_iff.1 hpv)
                      have hlt2 := (List.getElem?_eq_some_iff.1 HNM.out)
                      obtain ⟨b1, e1⟩ := hlt1
                      obtain ⟨b2, e2⟩ := hlt2
                      have := List.pairwise_iff_getElem.1 HNS.out.up y q b1 b2 (by omega)
                      rw [e1, e2] at this
                      exact this
                    clear hpv hy hq0
                    go_quiet (fail)
                    go_wp2_with fail
                    go_meet
                    case rel => exact ⟨rfl, _, World.drewN_drewN ..⟩
                case rest =>
                  obtain ⟨rfl, d', rfl⟩ := hcut
                  go_upto_region 37 with (fail)
                  go_cut [205] from 171 to 205 (fun v wx => v = .bool false ∧ ∃ d', wx = wo.drewN d')
                  case first =>
                    by_cases hB0 : B = 0
                    · have d3 : decide ((0 : Int) < (B : Int)) = false := decide_eq_false (by omega)
                      have d3' : decide (0 < B) = false := decide_eq_false (by omega)
                      have d4' : (B == 0) = true := by rw [hB0]; rfl
                      have d4'' : decide (B = 0) = true := decide_eq_true hB0
                      have d4 : ((B : Int) == 0) = true := by rw [hB0]; rfl
                      have d5 := HSH.out.2 hB0
                      clear hB0
                      go_quiet (fail)
                      go_wp2_with fail
                      go_meet
                      case rel => exact ⟨rfl, _, World.drewN_drewN ..⟩
                    · have d3 : decide ((0 : Int) < (B : Int)) = true := decide_eq_true (by omega)
                      have d3' : decide (0 < B) = true := decide_eq_true (by omega)
                      have d4' : (B == 0) = false := by rw [beq_eq_false_iff_ne]; omega
                      have d4'' : decide (B = 0) = false := decide_eq_false (by omega)
                      have d4 : ((B : Int) == 0) = false := by rw [beq_eq_false_iff_ne]; omega
                      obtain ⟨d5, d6⟩ := HSH.out.1 hB0
                      clear hB0
                      go_quiet (fail)
                      go_wp2_with fail
                      go_meet
                      case rel => exact ⟨rfl, _, World.drewN_drewN ..⟩
                  case rest =>
                    obtain ⟨rfl, d', rfl⟩ := hcut
                    go_wp2_with fail
                    go_roundw
                    case rel => exact ⟨q + 1, by omega, by go_num, by rw [HN1.out]; go_num, by rw [HN2.out]; go_num, by rw [HN3.out, HS2E.out], below_drewN HBX.out _⟩
                    case measure => simp [intOf] <;> omega
          · have d1 : decide ((q : Int) < (N : Int)) = false := decide_eq_false (by omega)
            have hqN : ns.length ≤ q := by rw [HNN.out]; omega
            have e1 := pre_all one_ HNS.out hqN
            have e2 := pre_all finB HNS.out hqN
            have e3 := pre_all bk HNS.out hqN
            rw [tot_one, HLN.out] at e1
            rw [HFS.out] at e2
            rw [HBS.out] at e3
            rw [e1, e2, e3, HX3.out]
            have HBX : Hid (Below w.heap.size w wr) := Lib.hid (HB4.out.trans (hbx.mono HB4.out.size))
            clear e1 e2 e3 hbx hqN
            go_wp2_with fail
            go_ret
            exact ⟨rfl, HBX.out⟩
end Go.Proofs.Ytfiimmbpfdpjfaa
