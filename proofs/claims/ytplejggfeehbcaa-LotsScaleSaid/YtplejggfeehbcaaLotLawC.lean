/-
  The walk of LotsScale: weights times a power of two choose the same.
-/
import Derived.Test.YtplejggfeehbcaaScale
import Derived.Test.YtplejggfeehbcaaLotLawA
import Derived.Test.YtplejggfeehbcaaInts
import Derived.Deep.AppendLies
namespace Go.Proofs.Ytplejggfeehbcaa
open Go.RowKit
set_option linter.unusedSimpArgs false

/-- the numbers that are weighed -/
def sx (z : Int) : Int := z.tmod 1000000
theorem sx_small (z : Int) : (sx z).natAbs < 1000000 := by
  unfold sx
  have := Int.natAbs_tmod z 1000000
  rw [this]
  exact Nat.mod_lt _ (by decide)
theorem padL_map (zs : List Int) (e : Nat) (n : Int) (i : Nat) (_h : ¬ n < 1) : (padL (zs.map fun z => Fl.SW (sx z) e) n).getD i 0 = Fl.SW (if i < (padL (zs.map fun z => Fl.SW (sx z) e) n).length then (zs.map sx).getD i 0 else 0) e := by
  have z0 : Fl.SW 0 e = 0 := if_pos rfl
  by_cases hi : i < (padL (zs.map fun z => Fl.SW (sx z) e) n).length
  · rw [if_pos hi, padL_get _ _ _ hi]
    by_cases h2 : i < zs.length
    · simp [List.getD_eq_getElem?_getD, List.getElem?_eq_getElem h2]
    · rw [List.getD_eq_getElem?_getD, List.getElem?_eq_none (by simpa using h2), List.getD_eq_getElem?_getD, List.getElem?_eq_none (by simpa using h2)]
      exact z0.symm
  · rw [if_neg hi, List.getD_eq_getElem?_getD, List.getElem?_eq_none (by omega), z0]
    rfl
theorem scale_heavy (zs : List Int) (e : Nat) (n : Int) (he : e ≤ 400) : heavyV (zs.map fun z => Fl.SW (sx z) e) n = heavyV (zs.map fun z => Fl.SW (sx z) 0) n := by
  by_cases h : n < 1
  · rw [show ∀ xs, heavyV xs n = -1 from fun xs => if_pos h, show ∀ xs, heavyV xs n = -1 from fun xs => if_pos h]
  · rw [heavyV_best _ _ h, heavyV_best _ _ h]
    have hl : (padL (zs.map fun z => Fl.SW (sx z) e) n).length = (padL (zs.map fun z => Fl.SW (sx z) 0) n).length := by
      have a := padL_len (zs.map fun z => Fl.SW (sx z) e) n h
      have b := padL_len (zs.map fun z => Fl.SW (sx z) 0) n h
      rw [List.length_map] at a b
      omega
    have hz : ∀ i m, (if i < m then (zs.map sx).getD i 0 else 0).natAbs < 9007199254740992 := by
      intro i m
      split
      · rw [List.getD_eq_getElem?_getD]
        by_cases h2 : i < zs.length
        · simp [List.getElem?_eq_getElem h2]
          have := sx_small zs[i]
          omega
        · rw [List.getElem?_eq_none (by simpa using h2)]; decide
      · decide
    have hb := bestAt_congr (padL (zs.map fun z => Fl.SW (sx z) e) n) (padL (zs.map fun z => Fl.SW (sx z) 0) n) 1 (padL (zs.map fun z => Fl.SW (sx z) e) n).length
      (fun i _ => by rw [padL_map zs e n i h, padL_map zs 0 n i h, (Fl.SW_key _ e (hz _ _) he).1, (Fl.SW_key _ 0 (hz _ _) (by omega)).1])
      (fun i j _ _ => by rw [padL_map zs e n i h, padL_map zs e n j h, padL_map zs 0 n i h, padL_map zs 0 n j h, hl, Fl.SW_ord _ _ e (hz _ _) (hz _ _) he]) _ (Nat.le_refl _)
    rw [hb, hl]

set_option maxHeartbeats 4000000 in
set_option maxRecDepth 100000 in
theorem lotsScale_walk (A : Option Addr) (k c : Nat) (zs : List Int) (n by_ : Int) (w : World) (hx : Is w A k zs ∧ k * 8 ≤ 140737488351232) (hn : (Lit.int .i64 n).wf = true) (hr : (Lit.int .i64 by_).wf = true) :
    Calls Try.prog 16 #[.slice A k c, .int .i64 n, .int .i64 by_] w fun e w' => e = .returned (.bool true) ∧ Below w.heap.size w w' := by
  have hr := int_wf hr
  have hn := int_wf hn
  obtain ⟨h, hk⟩ := hx
  have hk2 : k ≤ 17592186044000 := by omega
  obtain ⟨i0, hi, hz0, hz1, hz2⟩ := info_parts infoF
  have HF := Lib.hid h
  have HL := Lib.hid h.len
  have HW := Lib.hid h.word
  have hpw := plus_wf hr
  obtain ⟨y, hy⟩ : ∃ y, plus by_ = y := ⟨_, rfl⟩
  have HY := Lib.hid hy
  rw [hy] at hpw
  obtain ⟨m, hm⟩ : ∃ m : Nat, y.tmod 60 = (m : Int) := ⟨(y.tmod 60).toNat, by rw [Int.tmod_eq_emod_of_nonneg hpw.1]; omega⟩
  have hm60 : m < 60 := by rw [Int.tmod_eq_emod_of_nonneg hpw.1] at hm; omega
  clear h hk hy
  go_enter Try.func16, Try.ntmps16
  go_wp2_with fail
  refine (awake17_c _).mono ?_
  rintro e w1 ⟨rfl, hb1⟩
  have HB1 := Lib.hid hb1
  clear hb1
  go_upto_if 19 with (fail)
  go_cut [2] (fun v wc => v = .int .i64 y ∧ wc = w1)
  case first =>
    by_cases hz : by_ < 0
    · have := HY.out
      unfold plus at this
      rw [if_pos hz] at this
      have HY2 := Lib.hid this
      clear this
      go_wp2
      go_meet
      case rel => exact ⟨by first | rfl | (congr 1 <;> (have := HY2.out; omega)), rfl⟩
    · have := HY.out
      unfold plus at this
      rw [if_neg hz] at this
      have HY2 := Lib.hid this
      clear this
      go_wp2
      go_meet
      case rel => exact ⟨by first | rfl | (congr 1 <;> (have := HY2.out; omega)), rfl⟩
  case rest =>
  obtain ⟨rfl, rfl⟩ := hcut
  obtain ⟨us, has⟩ : ∃ us, (zs.map fun z => Fl.SW (sx z) 0) = us := ⟨_, rfl⟩
  obtain ⟨vs, hbs⟩ : ∃ vs, (zs.map fun z => Fl.SW (sx z) m) = vs := ⟨_, rfl⟩
  have HAL : Hid (us.length = k) := Lib.hid (by rw [← has, List.length_map, HL.out])
  have HBL : Hid (vs.length = k) := Lib.hid (by rw [← hbs, List.length_map, HL.out])
  have HAG : Hid (∀ j, j < k → us[j]? = some (Fl.SW (sx (zs.getD j 0)) 0)) := Lib.hid (fun j hj => by
    have : j < zs.length := by rw [HL.out]; exact hj
    rw [← has, List.getElem?_map, List.getElem?_eq_getElem this, List.getD_eq_getElem?_getD, List.getElem?_eq_getElem this]; rfl)
  have HBG : Hid (∀ j, j < k → vs[j]? = some (Fl.SW (sx (zs.getD j 0)) m)) := Lib.hid (fun j hj => by
    have : j < zs.length := by rw [HL.out]; exact hj
    rw [← hbs, List.getElem?_map, List.getElem?_eq_getElem this, List.getD_eq_getElem?_getD, List.getElem?_eq_getElem this]; rfl)
  have hsmall : ∀ z e, e ≤ 400 → Fl.SW (sx z) e < 18446744073709551616 := fun z e he => (Fl.SW_key (sx z) e (by have := sx_small z; omega) he).2.1
  have HAB : Hid (∀ x ∈ us, x < 18446744073709551616) := Lib.hid (by
    intro x hx
    rw [← has] at hx
    obtain ⟨z, _, rfl⟩ := List.mem_map.1 hx
    exact hsmall z 0 (by omega))
  have HBB : Hid (∀ x ∈ vs, x < 18446744073709551616) := Lib.hid (by
    intro x hx
    rw [← hbs] at hx
    obtain ⟨z, _, rfl⟩ := List.mem_map.1 hx
    exact hsmall z m (by omega))
  have HEQ : Hid (heavyV vs n = heavyV us n) := Lib.hid (by rw [← has, ← hbs]; exact scale_heavy zs m n (by omega))
  clear has hbs hsmall
  go_wp2_with fail
  go_loopw [8, 9] (fun p i wr => ∃ e : Nat, e ≤ m ∧ i = .int .i64 e ∧ p = .float .f64 (Fl.P e) ∧ Drw wc wr) (fun _ i _ => m - (intOf i).toNat)
  case atStart => exact ⟨0, by omega, rfl, rfl, Drw.refl _⟩
  case round =>
    obtain ⟨e, he, rfl, rfl, ⟨d, rfl⟩⟩ := hrel
    by_cases hlt : e < m
    · have HP : Hid (floatBits .mul .f64 (Fl.P e) 4611686018427387904 = some (Fl.P (e + 1))) := Lib.hid (Fl.P_next e (by omega))
      go_wp2
      go_roundw
      case rel => exact ⟨e + 1, by omega, by go_num, by rw [fa_some HP.out], ⟨_, rfl⟩⟩
      case measure => simp [intOf]; omega
    · have hem : e = m := by omega
      subst hem
      clear hlt he
      have HB2 : Hid (Below w.heap.size w (wc.drewN d)) := Lib.hid (below_drewN HB1.out d)
      generalize wc.drewN d = w2 at *
      obtain ⟨pm, hpm⟩ : ∃ pm, Fl.P e = pm := ⟨_, rfl⟩
      have HPM := Lib.hid hpm
      rw [hpm]
      clear hpm
      go_wp2_with fail
      go_loopw [10, 11, 12] (fun a b i wr => ∃ j : Nat, j ≤ k ∧ i = .int .i64 j ∧ wr.ownsRow w.heap.size 24 1 a j (flo (us.take j)) ∧ wr.ownsRow w.heap.size 24 1 b j (flo (vs.take j)) ∧ (a.ownBlock = none ∨ a.ownBlock ≠ b.ownBlock) ∧ Below w.heap.size w wr) (fun _ _ i _ => k - (intOf i).toNat)
      case atStart => exact ⟨0, by omega, rfl, World.ownsRow_nil _ _ _ _, World.ownsRow_nil _ _ _ _, .inl rfl, HB2.out⟩
      case round =>
        obtain ⟨j, hj, rfl, hoa, hob, hne, hB⟩ := hrel
        by_cases hlt : j < k
        · obtain ⟨ad, hA, hcell⟩ := (HF.out.below hB).at_ (by omega)
          have cx := hcell j hlt
          subst hA
          have hwf := HW.out j
          obtain ⟨z, hz⟩ : ∃ z, zs.getD j 0 = z := ⟨_, rfl⟩
          rw [hz] at cx hwf
          obtain ⟨s, hs⟩ : ∃ s, z.tmod 1000000 = s := ⟨_, rfl⟩
          have hss : sx z = s := hs
          have hsb := sx_small z
          rw [hss] at hsb
          obtain ⟨X, hX⟩ : ∃ X, floatOfInt .f64 s = X := ⟨_, rfl⟩
          have HX : Hid (us[j]? = some X) := Lib.hid (by rw [HAG.out j hlt, hz, hss, ← hX, Fl.SW_int s (by omega)])
          obtain ⟨Y, hY⟩ : ∃ Y, Fl.SW s e = Y := ⟨_, rfl⟩
          have HY : Hid (vs[j]? = some Y) := Lib.hid (by rw [HBG.out j hlt, hz, hss, hY])
          have HM : Hid (floatBits .mul .f64 X pm = some Y) := Lib.hid (by
            rw [← hX, ← HPM.out, Fl.SW_int s (by omega), ← hY]
            exact Fl.SW_mul s e (by omega) (by omega))
          have HOA := Lib.hid hoa
          have HOB := Lib.hid hob
          have HNE := Lib.hid hne
          have HBr := Lib.hid hB
          have HSZ := Lib.hid (show w.heap.size ≤ wr.heap.size from hB.size)
          have hs1 : ∀ (v : World) (o : Obj), (v.alloc o).heap.size = v.heap.size + 1 := fun v o => by show (v.heap.push o).size = _; rw [Array.size_push]
          have HS1 := Lib.hid hs1
          clear hoa hob hne hB hcell hz hss hsb hY hs1
          go_wp2_with (first
            | (at_builtin; refine wpList_append_lies _ rfl (.tmp 46) (.tmp 48) 31 rfl w.heap.size 24 i0 (.float .f64 0) 1 8 Try.underlying31 hi hz0 hz1 hz2 rfl (by decide) _ j (flo (us.take j)) rfl (World.ownsRow.alloc (w := wr.drewN (fn .mul X pm)) HOA.out _) ⟨wr.heap.size, 0, none⟩ 1 1 [.float .f64 X] rfl rfl ?c1 ?c2 (by decide) ?c3 ?c4 ?c5 (wr.heap.size + 1) ?c6 ?_)
            | go_in)
          case c1 =>
            intro q u hq
            match q, hq with
            | 0, hq => simp at hq; subst hq; exact (Row.new (wr.drewN (fn .mul X pm)) _ [_]).cell 0
          case c2 => intro u hu; simp at hu; subst hu; rfl
          case c3 => unfold maxLen; omega
          case c4 => omega
          case c5 => have := HSZ.out; simp; omega
          case c6 => exact HS1.out _ _
          intro g1 cap1 w4 ho1 hg1 hl1 hlt1
          have HB4 : Hid (Below w.heap.size w w4) := Lib.hid (own_next (w := wr.drewN (fn .mul X pm)) (below_drewN HBr.out _) HSZ.out (HOA.out : (wr.drewN (fn .mul X pm)).ownsRow _ _ _ _ _ _) _ hg1)
          have HO4 := Lib.hid ho1
          have HOB4 := Lib.hid (World.ownsRow.kept (World.ownsRow.alloc (w := wr.drewN (fn .mul X pm)) HOB.out _) hg1 (by
            exact Classical.or_iff_not_imp_left.2 (fun hb0 => by
              rcases HNE.out with h1 | h1
              · rw [h1]; exact hb0
              · exact fun h2 => h1 h2.symm)))
          have HL1 := Lib.hid hl1
          have HT1 := Lib.hid hlt1
          have HG1 := Lib.hid hg1
          clear ho1 hg1 hl1 hlt1
          go_wp2_with (first
            | (at_builtin; refine wpList_append_lies _ rfl (.tmp 50) (.tmp 52) 31 rfl w.heap.size 24 i0 (.float .f64 0) 1 8 Try.underlying31 hi hz0 hz1 hz2 rfl (by decide) _ j (flo (vs.take j)) rfl (World.ownsRow.alloc HOB4.out _) ⟨w4.heap.size, 0, none⟩ 1 1 [.float .f64 (fa .mul X pm wr)] rfl rfl ?d1 ?d2 (by decide) ?d3 ?d4 ?d5 (w4.heap.size + 1) ?d6 ?_)
            | go_in)
          case d1 =>
            intro q u hq
            match q, hq with
            | 0, hq => simp at hq; subst hq; exact (Row.new w4 _ [_]).cell 0
          case d2 => intro u hu; simp at hu; subst hu; rfl
          case d3 => unfold maxLen; omega
          case d4 => omega
          case d5 => have := HB4.out.size; simp; omega
          case d6 => exact HS1.out _ _
          intro g2 cap2 w5 ho2 hg2 hl2 hlt2
          have HB5 : Hid (Below w.heap.size w w5) := Lib.hid (own_next HB4.out HB4.out.size HOB4.out _ hg2)
          have hne12 : g1 ≠ g2 := by
            rcases hl2 with h2 | h2
            · have hb2 := HOB.out.lt g2 h2
              rcases HL1.out with h1 | h1
              · rcases HNE.out with h3 | h3
                · rw [h3] at h1; cases h1
                · rw [h1, h2] at h3
                  intro h4
                  exact h3 (by rw [h4])
              · omega
            · have := HT1.out
              omega
          have HO5 := Lib.hid (World.ownsRow.kept (World.ownsRow.alloc HO4.out _) hg2 (.inr (by
            intro h2
            rcases hl2 with h3 | h3
            · rw [h3] at h2
              exact hne12 (by simpa [Value.ownBlock] using h2)
            · have h4 := HOB4.out.lt g1 (by rw [← h2]; rfl)
              rcases HL1.out with h1 | h1
              · have h5 : (Value.slice (some ⟨g1, 0, none⟩) (j + 1) cap1).ownBlock = some g1 := rfl
                rw [h5] at h2
                rcases HNE.out with h6 | h6
                · rw [h6] at h1; cases h1
                · exact h6 (h1.trans h2)
              · have h5 : (Value.slice (some ⟨g1, 0, none⟩) (j + 1) cap1).ownBlock = some g1 := rfl
                rw [h5] at h2
                have := HOB.out.lt g1 h2.symm
                omega)))
          have HO6 := Lib.hid ho2
          have HNE2 := Lib.hid hne12
          clear ho2 hg2 hl2 hlt2 hne12
          go_wp2
          go_roundw
          case rel =>
            refine ⟨j + 1, by omega, by go_num, ?_, ?_, .inr ?_, HB5.out⟩
            · have := HO5.out
              rw [flo_one] at this
              rw [List.take_add_one, HX.out]
              exact this
            · have := HO6.out
              rw [flo_one, fa_some HM.out] at this
              rw [List.take_add_one, HY.out]
              exact this
            · intro h7
              exact HNE2.out (by simpa [Value.ownBlock] using h7)
          case measure => simp [intOf]; omega
        · have hjk : j = k := by omega
          subst hjk
          clear hlt hj
          rw [List.take_of_length_le (Nat.le_of_eq HAL.out)] at hoa
          rw [List.take_of_length_le (Nat.le_of_eq HBL.out)] at hob
          obtain ⟨A1, c1, rfl, hF1, hc1, hA1⟩ := owned_fs hoa HAB.out (by omega)
          obtain ⟨A2, c2, rfl, hF2, hc2, hA2⟩ := owned_fs hob HBB.out (by omega)
          have n1 : A1 = none → j = 0 ∧ c1 = 0 := by
            intro h1
            subst h1
            rcases hoa.2 with ⟨h2, h3⟩ | ⟨g, cap, cur, h2, _⟩
            · cases h2; exact ⟨rfl, rfl⟩
            · cases h2
          have n2 : A2 = none → j = 0 ∧ c2 = 0 := by
            intro h1
            subst h1
            rcases hob.2 with ⟨h2, h3⟩ | ⟨g, cap, cur, h2, _⟩
            · cases h2; exact ⟨rfl, rfl⟩
            · cases h2
          have CA := Lib.hid (heavy_c A1 j c1 us n wr hF1 hc1 n1 (by omega) hn.2)
          have CB := Lib.hid (fun w' (hb : Below wr.heap.size wr w') => heavy_c A2 j c2 vs n w' (hF2.below hb) hc2 n2 (by omega) hn.2)
          rw [HEQ.out] at CB
          have HBr := Lib.hid hB
          clear hoa hob hF1 hF2 hA1 hA2 hne hB n1 n2
          generalize heavyV us n = v at *
          go_wp2_with fail
          refine CA.out.mono ?_
          rintro e1 w6 ⟨rfl, hb6⟩
          have HB6 := Lib.hid hb6
          clear hb6
          go_wp2_with fail
          refine (CB.out w6 HB6.out).mono ?_
          rintro e1 w7 ⟨rfl, hb7⟩
          have HB7 := Lib.hid hb7
          clear hb7
          go_wp2
          go_ret
          exact ⟨rfl, (HBr.out.trans (HB6.out.mono HBr.out.size)).trans (HB7.out.mono (Nat.le_trans HBr.out.size HB6.out.size))⟩
end Go.Proofs.Ytplejggfeehbcaa
