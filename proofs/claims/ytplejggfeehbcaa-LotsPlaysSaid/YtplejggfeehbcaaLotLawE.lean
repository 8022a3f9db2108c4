/-
  The walk of LotsPlays: a schedule step by step; what was handed in is written over.
-/
import Derived.Test.YtplejggfeehbcaaLotK
import Derived.Test.YtplejggfeehbcaaLotOpen
import Derived.Test.YtplejggfeehbcaaInts
import Derived.Deep.AppendLies
import Derived.Deep.DrawnRows
namespace Go.Proofs.Ytplejggfeehbcaa
open Go.RowKit
set_option linter.unusedSimpArgs false

set_option maxHeartbeats 8000000 in
set_option maxRecDepth 100000 in
theorem lotsPlays_walk (M : Option Addr) (len cap : Nat) (rs : List Raw) (L : List Lot) (A2 : Option Addr) (k2 c2 : Nat) (zs : List Int) (w : World)
    (hx : Cs w M (rawCells rs) ∧ Lts w (fun _ => True) rs L ∧ L.length = len ∧ (M = none → len = 0 ∧ cap = 0) ∧ len * 32 ≤ 140737488351232) (hy : Is w A2 k2 zs ∧ k2 * 8 ≤ 140737488351232) :
    Calls Try.prog 14 #[.slice M len cap, .slice A2 k2 c2] w fun e w' => e = .returned (.bool true) ∧ Below w.heap.size w w' := by
  obtain ⟨hC, hL, hLn, hMn, hl32⟩ := hx
  obtain ⟨hIs, hk8⟩ := hy
  obtain ⟨i0, hi, hz0, hz1, hz2⟩ := info_parts infoL
  have HC := Lib.hid hC
  have HLt := Lib.hid hL
  have HLn := Lib.hid hLn
  have HMn := Lib.hid hMn
  have HIs := Lib.hid hIs
  clear hC hL hLn hMn hIs
  go_enter Try.func14, Try.ntmps14
  go_wp2_with fail
  refine (awake17_c _).mono ?_
  rintro e w1 ⟨rfl, hb1⟩
  have HB1 := Lib.hid hb1
  clear hb1
  go_wp2_with fail
  go_loopw [6, 7] (fun v i wr => ∃ (j : Nat) (us : List Raw), j ≤ len ∧ i = .int .i64 j ∧ us.length = j ∧ Mine wr w.heap.size v us (L.take j) ∧ Below w.heap.size w wr) (fun _ i _ => len - (intOf i).toNat)
  case atStart => exact ⟨0, [], by omega, rfl, rfl, Mine.nil _ _, HB1.out⟩
  case round =>
    obtain ⟨j, us, hj, rfl, hul, hM0, hB⟩ := hrel
    by_cases hlt : j < len
    · obtain ⟨l, hl⟩ : ∃ l, L[j]? = some l := ⟨_, List.getElem?_eq_getElem (by rw [HLn.out]; exact hlt)⟩
      obtain ⟨r, hr⟩ : ∃ r, rs[j]? = some r := ⟨_, List.getElem?_eq_getElem (by rw [HLt.out.len, HLn.out]; exact hlt)⟩
      have hp := HLt.out.p j r l hr hl
      obtain ⟨hFr, hkc, hAk, hkk, _⟩ := HLt.out.ws j r l hr hl
      obtain ⟨ad, hM, hcell⟩ := HC.out (by rw [rawCells_len, HLt.out.len, HLn.out]; omega)
      have a0 : w.cell? (ad.add (j * 2)) = some (.int .i64 r.p) := by
        rw [hcell (j * 2) (by rw [rawCells_len, HLt.out.len, HLn.out]; omega), Nat.mul_comm]
        exact rawCells_p rs j r hr
      have a1 : w.cell? (ad.add (j * 2 + 1)) = some r.sl := by
        rw [hcell (j * 2 + 1) (by rw [rawCells_len, HLt.out.len, HLn.out]; omega), Nat.mul_comm]
        exact rawCells_s rs j r hr
      rw [← addr_add] at a1
      obtain ⟨ae, hae⟩ : ∃ ae, ad.add (j * 2) = ae := ⟨_, rfl⟩
      rw [hae] at a0 a1
      rw [hp.1] at a0
      have HA0 := Lib.hid a0
      have HA1 := Lib.hid a1
      have a0 := (hB.cell (p := ae) (cell_lt a0)).trans a0
      have a1 := (hB.cell (p := ae.add 1) (cell_lt a1)).trans a1
      unfold Raw.sl at a1
      simp [Addr.add] at a1
      have hjlt : (j : Int) < (len : Int) := by omega
      have hj0 : (0 : Int) ≤ (j : Int) := by omega
      have HBr := Lib.hid hB
      have HM0 := Lib.hid hM0
      have HUL := Lib.hid hul
      have HP := Lib.hid hp
      have HF0 := Lib.hid hFr
      have hFd : Fs wr.drew r.A r.k l.2 := hFr.below hB.drew
      have CC := Lib.hid (own17_c r.A r.k r.c l.2 wr.drew hFd (by omega))
      have HK1 := Lib.hid (show l.2.length = r.k from hFr.len)
      have HK2 := Lib.hid (show r.k ≤ 17592186044300 from hkk)
      have HKX := Lib.hid hFr.bits
      have HTK : Hid (L.take (j + 1) = L.take j ++ [l]) := Lib.hid (by rw [List.take_add_one, hl]; rfl)
      subst hM
      clear hB hM0 hul hp hFr hFd hkc hAk hkk hcell hl hr
      go_wp2_with fail
      go_region_law (first
        | (go_simp; go_at_call 58; refine CC.out.mono ?_; rintro e w4 ⟨rfl, hr4, hb4⟩; have HR4 : Hid (Row w4 wr.heap.size 24 (flo l.2 ++ marks)) := Lib.hid hr4; have HB4 : Hid (Below wr.heap.size wr w4) := Lib.hid (Below.trans (Below.refl _ wr).drew hb4); have HO4 := Lib.hid (World.ownsRow.kept HM0.out.own (below_grown HB4.out none) (Classical.em _)); have a04 := (HB4.out.cell (p := ae) (cell_lt a0)).trans a0; have a14 := (HB4.out.cell (p := ⟨ae.block, ae.off + 1, none⟩) (cell_lt a1)).trans a1; clear hr4 hb4)
        | (refine step_append_lies _ (by rfl) _ _ _ (by rfl) w.heap.size 52 i0 (.agg #[.int .i64 0, .slice none 0 0]) 2 32 Try.underlying56 hi hz0 hz1 hz2 rfl (by decide) u6 us.length (rawCells us) (by rfl) (World.ownsRow.alloc HO4.out _) ⟨w4.heap.size, 0, none⟩ 1 1 [.int .i64 l.1, .slice (some ⟨wr.heap.size, 0, none⟩) r.k (r.k + 2)] (by rfl) (by rfl) (World.news_of_block (cs := #[.int .i64 l.1, .slice (some ⟨wr.heap.size, 0, none⟩) r.k (r.k + 2)]) (t := 52) (fr := (0, 0)) (heap_alloc_new w4 _)) (by simp [Value.oneCell']) (by omega) (by have := HUL.out; unfold maxLen; omega) (by have := HUL.out; omega) (by have := HBr.out.size; have := HB4.out.size; simp; omega) (w4.heap.size + 1) (by simp) ?_; intro g cap5 w5 ho5 hg5 hl5 hlt5; have HO5 := Lib.hid ho5; have HG5 := Lib.hid hg5; clear ho5 hg5 hl5 hlt5))
      all_goals (
        go_wp2
        go_roundw
        case rel =>
          have hsz : ∀ o : Obj, (w4.alloc o).heap.size = w4.heap.size + 1 := fun o => by show (w4.heap.push o).size = _; rw [Array.size_push]
          have hb4 := HB4.out
          have hbr := HBr.out
          refine ⟨j + 1, us ++ [⟨l.1, some ⟨wr.heap.size, 0, none⟩, r.k, r.k + 2⟩], by omega, by go_num, by rw [List.length_append, HUL.out]; rfl, ?_, ?_⟩
          · rw [HTK.out]
            exact HM0.out.snoc (z := wr.heap.size) (hb4.alloc hb4.size _) HG5.out HO5.out ⟨rfl, HP.out.2⟩ HK1.out.symm HK2.out HKX.out rfl hbr.size rfl (HR4.out.alloc _)
          · exact ((hbr.trans (hb4.mono hbr.size)).alloc (by have := hb4.size; have := hbr.size; omega) _).grown HG5.out (by rw [hsz]; have := hb4.size; have := hbr.size; omega) (fun x hx => (HO4.out.lt x hx).1)
        case measure => simp [intOf]; omega)
    · have hjl : j = len := by omega
      subst hjl
      clear hlt hj
      have hTL : L.take j = L := List.take_of_length_le (by rw [HLn.out]; omega)
      rw [hTL] at hM0
      obtain ⟨A, c, hv⟩ := hM0.form
      rw [hul] at hv
      subst hv
      obtain ⟨hcs, hnil, h9⟩ := hM0.cs
      clear h9
      have hUG : ∀ (i : Nat) (r : Raw), us[i]? = some r → ∃ G g, A = some ⟨G, 0, none⟩ ∧ w.heap.size ≤ G ∧ G < wr.heap.size ∧ r.A = some ⟨g, 0, none⟩ ∧ w.heap.size ≤ g ∧ g < wr.heap.size := by
        intro i r hr
        have hS := hM0.spoilt (Below.refl _ _)
        obtain ⟨G, vs, e1, e2, e3, _⟩ := hS.top (by have := (List.getElem?_eq_some_iff.1 hr).1; omega)
        obtain ⟨g, us', b1, b2, b3, _⟩ := hS.each i r hr
        exact ⟨G, g, e1, e2, e3, b3, b1, b2⟩
      have HUG := Lib.hid hUG
      have CN := Lib.hid (new_in A j c us L wr hcs hM0.lts HLn.out hnil hl32)
      have HM0 := Lib.hid hM0
      have HBr := Lib.hid hB
      have HUL := Lib.hid hul
      clear hM0 hB hul hcs hnil hUG hTL
      go_wp2_with fail
      with_reducible refine CN.out.mono ?_
      rintro e w2 ⟨b, rfl, hS2, hb2⟩
      have HS2 := Lib.hid hS2
      have HB2 := Lib.hid hb2
      clear hS2 hb2
      go_upto_region 11 with (fail)
      have hst : Stage w (w2.alloc (.cells #[.slice M j cap, .int .i64 0] 61)) wr.heap.size w2.heap.size b A us L M j cap :=
        ⟨HM0.out.spoilt (HB2.out.alloc HB2.out.size _), HS2.out.amid (Amid.below ((Below.refl _ _).alloc (Nat.le_refl _) _) (Nat.le_refl _)), Row.new w2 _ [_, _], (HBr.out.trans (HB2.out.mono HBr.out.size)).alloc (Nat.le_trans HBr.out.size HB2.out.size) _, HB2.out.size⟩
      have HST := Lib.hid hst
      have HWM : Hid (w.heap.size ≤ wr.heap.size) := Lib.hid HBr.out.size
      clear hst
      generalize hw3 : (w2.alloc (.cells #[.slice M j cap, .int .i64 0] 61)) = w3 at *
      clear hw3
      obtain ⟨mid, hmid⟩ : ∃ mid, wr.heap.size = mid := ⟨_, rfl⟩
      obtain ⟨hi2, hhi⟩ : ∃ hi2, w2.heap.size = hi2 := ⟨_, rfl⟩
      rw [hmid, hhi] at HST
      rw [hmid] at HUG HWM
      clear HS2 HB2 HM0 HBr CN hmid
      rw [hhi]
      clear hhi
      go_wp2_with fail
      go_loopw [10] (fun i wx => ∃ t : Nat, t ≤ j ∧ i = .int .i64 t ∧ Stage w wx mid hi2 b A us L M j cap) (fun i _ => j - (intOf i).toNat)
      case atStart => exact ⟨0, by omega, rfl, HST.out⟩
      case round =>
        obtain ⟨t, ht, rfl, hst⟩ := hrel
        by_cases hlt : t < j
        · obtain ⟨r, hr⟩ : ∃ r, us[t]? = some r := ⟨_, List.getElem?_eq_getElem (by rw [HUL.out]; exact hlt)⟩
          obtain ⟨G, g, hA, hG1, hG2, hg, hg1, hg2⟩ := HUG.out t r hr
          have HR := Lib.hid hr
          have hk := (hst.sp.each t r hr)
          obtain ⟨_, _, _, _, _, _, _, hk6⟩ := hk
          have HGA := Lib.hid hg
          obtain ⟨k, hkk⟩ : ∃ k, r.k = k := ⟨_, rfl⟩
          obtain ⟨cc, hcc⟩ : ∃ cc, r.c = cc := ⟨_, rfl⟩
          have HKK := Lib.hid hkk
          have HCC := Lib.hid hcc
          rw [hkk] at hk6
          have HSt := Lib.hid hst
          have hbd : (t : Int) < (j : Int) := by omega
          have ht0 : (0 : Int) ≤ (t : Int) := by omega
          clear hst hr hg hkk hcc
          subst hA
          go_wp2_with fail
          go_loopw [11] (fun q wy => ∃ s : Nat, s ≤ k ∧ q = .int .i64 s ∧ Stage w wy mid hi2 b (some ⟨G, 0, none⟩) us L M j cap) (fun q _ => k - (intOf q).toNat)
          case atStart => exact ⟨0, by omega, rfl, HSt.out⟩
          case round =>
            obtain ⟨s, hs, rfl, hst⟩ := hrel
            obtain ⟨⟨v0, hc0⟩, hf0, hc1, vs, hR, hkv⟩ := hst.look HR.out rfl HGA.out
            rw [HKK.out, HCC.out] at hc1
            by_cases hlt2 : s < k
            · have hcg : ∃ x, wr.cell? ⟨g, s, none⟩ = some x := ⟨_, by rw [hR.cell]; exact List.getElem?_eq_getElem (by have := HKK.out; omega)⟩
              obtain ⟨x, hcg⟩ := hcg
              have hfg := hR.frozen s
              have HSt2 := Lib.hid hst
              have HRg := Lib.hid hR
              have hsk : (s : Int) < (k : Int) := by omega
              clear hst hR
              go_wp2
              go_roundw
              case rel => exact ⟨s + 1, by omega, by go_num, HSt2.out.weight HRg.out hg1 hg2 _ _⟩
              case measure => simp [intOf]; omega
            · have HSt2 := Lib.hid hst
              clear hst hR
              go_wp2
              go_roundw
              case rel => exact ⟨t + 1, by omega, by go_num, HSt2.out.pick rfl hG1 hG2 t _⟩
              case measure => simp [intOf]; omega
        · have htj : ¬ (t : Int) < (j : Int) := by omega
          have hSc := hst.sc
          have hRf := hst.rf
          have hBl := hst.bl
          have hMh := hst.mh
          have HLL : Hid (Lts w (fun _ => True) rs L) := HLt
          have HP : Hid (w.heap.size ≤ hi2) := Lib.hid (Nat.le_trans HWM.out hMh)
          have HBH : Hid (b < hi2) := Lib.hid hSc.own.2
          have HBL : Hid (w.heap.size ≤ b) := Lib.hid (Nat.le_trans HWM.out hSc.own.1)
          have HSC := Lib.hid hSc
          have HRF := Lib.hid hRf
          have HBl := Lib.hid hBl
          clear hst hSc hRf hBl hMh
          go_wp2_with fail
          go_loopw [12] (fun i wx => ∃ (t u : Nat), t ≤ k2 ∧ t ≤ 2000 ∧ i = .int .i64 t ∧ u ≤ j ∧ SchedIn wx mid hi2 b L u ∧ Row wx hi2 61 [.slice M j cap, .int .i64 u] ∧ Below w.heap.size w wx) (fun i _ => k2 - (intOf i).toNat)
          case atStart => exact ⟨0, 0, by omega, by omega, rfl, by omega, HSC.out, HRF.out, HBl.out⟩
          case round =>
            obtain ⟨t, u, ht, ht2, rfl, hu, hSc, hRf, hBl⟩ := hrel
            by_cases hlt : t < k2
            · by_cases hlt2 : t < 2000
              · obtain ⟨ad2, hA2, hcell⟩ := HIs.out.at_ (by omega)
                have hcx := hcell t hlt
                have hwd := HIs.out.word t
                subst hA2
                obtain ⟨z, hz⟩ : ∃ z, zs.getD t 0 = z := ⟨_, rfl⟩
                rw [hz] at hcx hwd
                have HX0 := Lib.hid hcx
                have hcx := (hBl.cell (p := ad2.add t) (cell_lt hcx)).trans hcx
                have hzl : z ≤ 9223372036854775807 := hwd.2
                have hul : nextU L u z ≤ j := by
                  unfold nextU
                  have := HLn.out
                  split
                  · exact hu
                  · split <;> omega
                have CN := Lib.hid (next_in mid hi2 b L u z wr hSc hzl)
                have HRf := Lib.hid hRf
                have HBr := Lib.hid hBl
                clear hSc hRf hBl hcell hz hwd
                have htk : (t : Int) < (k2 : Int) := by omega
                have ht0 : (0 : Int) ≤ (t : Int) := by omega
                have ht3 : (t : Int) < 2000 := by omega
                obtain ⟨v, hv⟩ : ∃ v, nextV L u z = v := ⟨_, rfl⟩
                obtain ⟨u', hu'⟩ : ∃ u', nextU L u z = u' := ⟨_, rfl⟩
                have HV := Lib.hid hv
                have HU' := Lib.hid hu'
                rw [hv, hu'] at CN
                rw [hu'] at hul
                clear hv hu'
                go_wp2_with fail
                with_reducible refine CN.out.mono ?_
                rintro e w6 ⟨rfl, hS6, hg6⟩
                have HS6 := Lib.hid hS6
                have HR6 : Hid (Row w6 hi2 61 [.slice M j cap, .int .i64 u]) := Lib.hid (HRf.out.kept hg6 (by have := HBH.out; omega))
                have HB6 : Hid (Below w.heap.size w w6) := Lib.hid (HBr.out.grown hg6 HBr.out.size (fun x hx => by cases hx; exact HBL.out))
                clear hS6 hg6
                have hcx6 := (HB6.out.cell (p := ad2.add t) (cell_lt HX0.out)).trans HX0.out
                have CR := Lib.hid (refNext_c hi2 M cap rs L u z w6 (by rw [HLn.out]; exact HR6.out) (HC.out.below HB6.out)
                  (fun w' hg => HLL.out.below (HB6.out.grown hg HB6.out.size (fun x hx => by cases hx; exact HP.out)))
                  (fun h0 ad he => by
                    have h1 := HC.out.below (Below.refl _ w)
                    obtain ⟨ad', e1, e2⟩ := h1 (by rw [rawCells_len, HLL.out.len]; omega)
                    rw [he] at e1
                    cases e1
                    have h2 := e2 0 (by rw [rawCells_len, HLL.out.len]; omega)
                    rw [List.getElem?_eq_getElem (by rw [rawCells_len, HLL.out.len]; omega)] at h2
                    have h3 := cell_lt h2
                    rw [add_block] at h3
                    have := HP.out
                    omega)
                  (by rw [HLn.out]; exact hu) (by rw [HLn.out]; exact hl32) hzl)
                rw [HV.out, HU'.out, HLn.out] at CR
                go_wp2_with fail
                with_reducible refine CR.out.mono ?_
                rintro e w7 ⟨rfl, hR7, hg7⟩
                have HR7 := Lib.hid hR7
                have HB7 : Hid (Below w.heap.size w w7) := Lib.hid (HB6.out.grown hg7 HB6.out.size (fun x hx => by cases hx; exact HP.out))
                have HS7 : Hid (SchedIn w7 mid hi2 b L u') := Lib.hid (HS6.out.amid (Amid.grown hg7 (by have := HR6.out.lt; omega) (.inr (Nat.le_refl _))))
                have c1 : w7.cell? ⟨hi2, 1, none⟩ = some (.int .i64 u') := by rw [hR7.cell]; rfl
                clear hR7 hg7 hcx hcx6
                have CU := Lib.hid (fun d => used_c b L u' (w7.drewN d) (HS7.out.sched.below (below_drewN (Below.refl _ _) d)))
                have CL := Lib.hid (fun d => left_c b L u' (w7.drewN d) (HS7.out.sched.below (below_drewN (Below.refl _ _) d)))
                rw [HLn.out] at CL
                have hvv : (v != v) = false := by simp
                have huu : ((u' : Int) != (u' : Int)) = false := by simp
                have hww : IntKind.i64.wrap ((j : Int) - (u' : Int)) = (j : Int) - (u' : Int) := by rw [IntKind.wrap_i64]; omega
                have hjj : (((j : Int) - (u' : Int)) != ((j : Int) - (u' : Int))) = false := by simp
                go_wp2_with fail
                go_quiet ((first
                  | (go_at_call 66; refine (CU.out _).mono ?_; rintro e w8 ⟨rfl, rfl⟩; exact ⟨rfl, _, rfl⟩)
                  | (go_at_call 67; refine (CL.out _).mono ?_; rintro e w8 ⟨rfl, ⟨d, rfl⟩⟩; exact ⟨rfl, _, by rw [World.drewN_drewN]⟩)))
                go_wp2
                go_roundw
                case rel => exact ⟨t + 1, u', by omega, by omega, by go_num, hul, HS7.out.amid (Amid.below (below_drewN (Below.refl _ _) _) (by have := HR7.out.lt; omega)), HR7.out.drewN _, below_drewN HB7.out _⟩
                case measure => simp [intOf]; omega
              · have HBr := Lib.hid hBl
                clear hSc hRf hBl
                have htk : (t : Int) < (k2 : Int) := by omega
                have ht3 : ¬ (t : Int) < 2000 := by omega
                go_wp2
                go_ret
                exact ⟨rfl, HBr.out⟩
            · have HBr := Lib.hid hBl
              clear hSc hRf hBl
              have htk : ¬ (t : Int) < (k2 : Int) := by omega
              go_wp2
              go_ret
              exact ⟨rfl, HBr.out⟩
end Go.Proofs.Ytplejggfeehbcaa
