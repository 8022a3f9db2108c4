/-
  The walk of FigureFair: of whole numbers Fair lies above 0 and is at most 1; of all the same it is 1.
-/
import Derived.Test.YtplejggfeehbcaaFair
import Derived.Test.YtplejggfeehbcaaInts
import Derived.Test.YtplejggfeehbcaaFigF
import Derived.Deep.DeepCutAuto
import Derived.Deep.CutBlock
namespace Go.Proofs.Ytplejggfeehbcaa
open Go.RowKit
set_option linter.unusedSimpArgs false

/-- what a number is made into: 0 to 1000 -/
def kv (z : Int) : Nat := ((if z < 0 then -(z + 1) else z).tmod 1001).toNat
theorem kv_le (z : Int) : kv z ≤ 1000 := by
  unfold kv
  have h0 : 0 ≤ (if z < 0 then -(z + 1) else z) := by split <;> omega
  generalize (if z < 0 then -(z + 1) else z) = y at *
  rw [Int.tmod_eq_emod_of_nonneg h0]
  omega
theorem kv_cast (z : Int) : ((kv z : Nat) : Int) = (if z < 0 then -(z + 1) else z).tmod 1001 := by
  unfold kv
  have h0 : 0 ≤ (if z < 0 then -(z + 1) else z) := by split <;> omega
  generalize (if z < 0 then -(z + 1) else z) = y at *
  rw [Int.tmod_eq_emod_of_nonneg h0]
  omega
theorem kv_neg {z y : Int} (h : z < 0) (hy : -(z + 1) = y) : y.tmod 1001 = ((kv z : Nat) : Int) := by
  rw [kv_cast, if_pos h, hy]
theorem kv_pos {z : Int} (h : ¬ z < 0) : z.tmod 1001 = ((kv z : Nat) : Int) := by
  rw [kv_cast, if_neg h]
theorem float_W (k : Nat) : floatOfInt .f64 (k : Int) = Fl.W k := by
  show Fl.F.nearest (decide ((k : Int) < 0)) (k : Int).natAbs 0 = Fl.F.nearest false k 0
  rw [decide_eq_false (by omega), Int.natAbs_natCast]

/-- are the first k all as the first one -/
def alikeB (ks : List Nat) (k : Nat) : Bool := (ks.take k).all fun x => decide (x = ks.getD 0 0)
theorem alikeB_next (ks : List Nat) (k : Nat) (h : k < ks.length) : alikeB ks (k + 1) = (alikeB ks k && decide (ks.getD k 0 = ks.getD 0 0)) := by
  unfold alikeB
  rw [List.take_add_one, List.getElem?_eq_getElem h, List.all_append]
  simp [List.getD_eq_getElem?_getD, List.getElem?_eq_getElem h]

set_option maxHeartbeats 4000000 in
set_option maxRecDepth 100000 in
theorem fairl_walk (A : Option Addr) (n c : Nat) (zs : List Int) (w : World) (hx : Is w A n zs ∧ n * 8 ≤ 140737488351232) :
    Calls Try.prog 7 #[.slice A n c] w fun e w' => e = .returned (.bool true) ∧ Below w.heap.size w w' := by
  obtain ⟨h, hn⟩ := hx
  have hn2 : n ≤ 17592186044400 := by omega
  obtain ⟨i0, hi, hz0, hz1, hz2⟩ := info_parts infoF
  have HF := Lib.hid h
  have HL := Lib.hid h.len
  have HWF := Lib.hid h.word
  obtain ⟨ks, hks⟩ : ∃ ks, zs.map kv = ks := ⟨_, rfl⟩
  have HK := Lib.hid hks
  have HKL : Hid (ks.length = n) := Lib.hid (by rw [← hks, List.length_map, h.len])
  have HKG : Hid (∀ k, k < n → ks.getD k 0 = kv (zs.getD k 0)) := Lib.hid (by
    intro k hk
    rw [← hks]
    have : k < zs.length := by rw [h.len]; exact hk
    simp [List.getD_eq_getElem?_getD, List.getElem?_eq_getElem this])
  have HKE : Hid (∀ k ∈ ks, k ≤ 1000) := Lib.hid (by
    intro k hk
    rw [← hks] at hk
    obtain ⟨z, _, rfl⟩ := List.mem_map.1 hk
    exact kv_le z)
  clear h hn hks
  go_enter Try.func7, Try.ntmps7
  go_wp2_with fail
  refine (awake01_c _).mono ?_
  rintro e w1 ⟨rfl, hb1⟩
  have HB1 := Lib.hid hb1
  clear hb1
  go_wp2_with fail
  go_loopw [4, 5, 6, 7] (fun v s b i wr => ∃ k : Nat, k ≤ n ∧ k ≤ 1000 ∧ i = .int .i64 k ∧ s = .int .i64 (sumL (ks.take k) : Nat) ∧ b = .bool (alikeB ks k) ∧ wr.ownsRow w.heap.size 24 1 v k (flo ((ks.map Fl.W).take k)) ∧ Below w.heap.size w wr) (fun _ _ _ i _ => n - (intOf i).toNat)
  case atStart => exact ⟨0, by omega, by omega, rfl, rfl, rfl, World.ownsRow_nil _ _ _ _, HB1.out⟩
  case round =>
    obtain ⟨k, hk, hk2, rfl, rfl, rfl, hown, hB⟩ := hrel
    have hsum : sumL (ks.take k) ≤ 1000000 := Small.sum ⟨fun x hx => HKE.out x (List.mem_of_mem_take hx), by rw [List.length_take]; omega⟩
    by_cases hlt : k < n
    · by_cases hlt2 : k < 1000
      · obtain ⟨ad, hA, hcell⟩ := (HF.out.below hB).at_ (by omega)
        have cx := hcell k hlt
        subst hA
        have hwf := HWF.out k
        have hkg := HKG.out k hlt
        obtain ⟨z, hz⟩ : ∃ z, zs.getD k 0 = z := ⟨_, rfl⟩
        rw [hz] at cx hwf hkg
        have HKG2 := Lib.hid hkg
        have HB := Lib.hid hB
        have HO := Lib.hid hown
        have HSZ := Lib.hid (show w.heap.size ≤ wr.heap.size from hB.size)
        obtain ⟨y, hy⟩ : ∃ y, (if z < 0 then -(z + 1) else z) = y := ⟨_, rfl⟩
        have HY := Lib.hid hy
        have hyb : 0 ≤ y ∧ y ≤ 9223372036854775807 := by rw [← hy]; split <;> omega
        have hkc := (kv_cast z).symm
        rw [hy] at hkc
        clear hy
        obtain ⟨m, hm⟩ : ∃ m, kv z = m := ⟨_, rfl⟩
        have hm2 : m ≤ 1000 := by rw [← hm]; exact kv_le z
        rw [hm] at hkc HKG2
        clear hm
        have HFW := Lib.hid (float_W m)
        clear hB hcell hz hown hkg
        obtain ⟨b, hb⟩ : ∃ b, alikeB ks k = b := ⟨_, rfl⟩
        have HAL := Lib.hid hb
        rw [hb]
        clear hb
        obtain ⟨S, hS⟩ : ∃ S, sumL (ks.take k) = S := ⟨_, rfl⟩
        have HSS := Lib.hid hS
        rw [hS] at hsum ⊢
        clear hS
        go_upto_region 9 with (fail)
        go_upto_if 26 with (fail)
        go_cut [8] (fun v wd => v = .int .i64 y ∧ wd = wr)
        case first =>
          by_cases hz0 : z < 0
          · go_wp2
            go_meet
            case rel =>
              have := HY.out
              rw [if_pos hz0] at this
              exact ⟨by first | rfl | (congr 1 <;> omega), rfl⟩
          · go_wp2
            go_meet
            case rel =>
              have := HY.out
              rw [if_neg (by omega)] at this
              exact ⟨by first | rfl | (congr 1 <;> omega), rfl⟩
        case rest =>
          obtain ⟨rfl, rfl⟩ := hcut
          go_wp2_with (first
            | (at_builtin; (refine wpList_append_own _ rfl _ _ 31 rfl w.heap.size 24 i0 (.float .f64 0) 1 8 Try.underlying31 hi hz0 hz1 hz2 rfl (by decide) _ k (flo ((ks.map Fl.W).take k)) rfl (World.ownsRow.alloc HO.out _) ⟨wc.heap.size, 0, none⟩ 1 1 [.float .f64 (floatOfInt .f64 (m : Int))] rfl rfl ?c1 ?c2 ?c3 ?c4 ?c5 ?_))
            | go_in)
          case c1 =>
            intro j u hj
            match j, hj with
            | 0, hj => simp at hj; subst hj; exact (Row.new wc _ [_]).cell 0
          case c2 => intro u hu; simp at hu; subst hu; rfl
          case c3 => unfold maxLen; omega
          case c4 => omega
          case c5 => have := HSZ.out; simp; omega
          intro v' w2 hown' hgrow _
          have HB2 : Hid (Below w.heap.size w w2) := Lib.hid (own_next HB.out HSZ.out HO.out _ hgrow)
          rw [HFW.out, flo_one] at hown'
          have HO2 := Lib.hid hown'
          obtain ⟨A', c', rfl, hF, _, _⟩ := owned_fs hown' (by
            intro x hx
            rcases List.mem_append.1 hx with hx | hx
            · obtain ⟨q, hq, rfl⟩ := List.mem_map.1 (List.mem_of_mem_take hx)
              have := HKE.out q hq
              have := Fl.W_lt (k := q) (by omega)
              omega
            · rw [List.mem_singleton.1 hx]
              have := Fl.W_lt (k := m) (by omega)
              omega) (by omega)
          obtain ⟨ae, hA', hcell'⟩ := hF.at_ (by omega)
          subst hA'
          have ck := hcell' k (by omega)
          have c0 := hcell' 0 (by omega)
          have z0 : ae.add 0 = ae := by unfold Addr.add; rw [if_pos rfl]
          have hlk : ((ks.map Fl.W).take k).length = k := by rw [List.length_take, List.length_map, HKL.out]; omega
          rw [z0] at c0
          have g1 : (((ks.map Fl.W).take k) ++ [Fl.W m]).getD k 0 = Fl.W m := by
            rw [List.getD_eq_getElem?_getD, List.getElem?_append_right (by omega), hlk, Nat.sub_self]; rfl
          have g2 : (((ks.map Fl.W).take k) ++ [Fl.W m]).getD 0 0 = Fl.W (ks.getD 0 0) := by
            by_cases hk0 : k = 0
            · subst hk0
              simp only [List.take_zero, List.nil_append]
              rw [HKG2.out]; rfl
            · have : 0 < ks.length := by rw [HKL.out]; omega
              rw [List.getD_eq_getElem?_getD, List.getElem?_append_left (by omega), List.getElem?_take, if_pos (by omega), List.getElem?_map]
              simp [List.getD_eq_getElem?_getD, List.getElem?_eq_getElem this]
          rw [g1] at ck
          rw [g2] at c0
          obtain ⟨f, hf⟩ : ∃ f, ks.getD 0 0 = f := ⟨_, rfl⟩
          have hf2 : f ≤ 1000 := by
            rw [← hf, List.getD_eq_getElem?_getD]
            have : 0 < ks.length := by rw [HKL.out]; omega
            rw [List.getElem?_eq_getElem this]
            exact HKE.out _ (List.getElem_mem this)
          rw [hf] at c0
          have q1 := eq_W (a := m) (b := f) (by omega) (by omega)
          have HFF := Lib.hid hf
          clear hgrow hF hcell' z0 hlk g1 g2 hf hown'
          generalize hWm : Fl.W m = Wm at *
          generalize hWf : Fl.W f = Wf at *
          have HWm := Lib.hid hWm
          clear hWm hWf
          have HSUM : Hid (((sumL (ks.take (k + 1)) : Nat) : Int) = (S : Int) + (m : Int)) := Lib.hid (by
            rw [List.take_add_one, List.getElem?_eq_getElem (by rw [HKL.out]; exact hlt), sumL_append, HSS.out]
            have := HKG2.out
            rw [List.getD_eq_getElem?_getD, List.getElem?_eq_getElem (by rw [HKL.out]; exact hlt)] at this
            simp only [Option.getD_some] at this
            simp [sumL, this])
          have HALN : Hid (alikeB ks (k + 1) = (b && decide (m = f))) := Lib.hid (by
            rw [alikeB_next _ _ (by rw [HKL.out]; exact hlt), HAL.out, HKG2.out, HFF.out])
          have HOW : Hid (w2.ownsRow w.heap.size 24 1 (.slice (some ae) (k + 1) c') (k + 1) (flo ((ks.map Fl.W).take (k + 1)))) := Lib.hid (by
            rw [List.take_add_one, List.getElem?_map, List.getElem?_eq_getElem (by rw [HKL.out]; exact hlt)]
            have := HKG2.out
            rw [List.getD_eq_getElem?_getD, List.getElem?_eq_getElem (by rw [HKL.out]; exact hlt)] at this
            simp only [Option.getD_some] at this
            rw [this]
            show w2.ownsRow _ _ _ _ _ (flo (_ ++ [Fl.W m]))
            rw [HWm.out]
            exact HO2.out)
          go_upto_region 14 with (fail)
          cases b with
          | true =>
            go_quiet (fail)
            go_wp2
            go_roundw
            case rel =>
              refine ⟨k + 1, by omega, by omega, by go_num, ?_, ?_, ?_, below_drewN HB2.out _⟩
              · have := HSUM.out
                rw [this]
              · have := HALN.out
                rw [this, Bool.true_and]
              · exact HOW.out
            case measure => simp [intOf]; omega
          | false =>
            go_quiet (fail)
            go_wp2
            go_roundw
            case rel =>
              refine ⟨k + 1, by omega, by omega, by go_num, ?_, ?_, ?_, below_drewN HB2.out _⟩
              · have := HSUM.out
                rw [this]
              · have := HALN.out
                rw [this, Bool.false_and]
              · exact HOW.out
            case measure => simp [intOf]; omega
      · obtain ⟨A', c', rfl, hF, hcap, _⟩ := owned_fs hown (by
          intro x hx
          obtain ⟨q, hq, rfl⟩ := List.mem_map.1 (List.mem_of_mem_take hx)
          have := HKE.out q hq
          have := Fl.W_lt (k := q) (by omega)
          omega) (by omega)
        have C := Lib.hid (fair_c A' k c' _ wr hF hcap)
        rw [← List.map_take] at C
        have HSM : Hid (Small (ks.take k)) := Lib.hid ⟨fun x hx => HKE.out x (List.mem_of_mem_take hx), by rw [List.length_take]; omega⟩
        have HKT : Hid (alikeB ks k = true → ∀ x ∈ ks.take k, x = (ks.take k).getD 0 0) := Lib.hid (by
          intro ha x hx
          unfold alikeB at ha
          have := of_decide_eq_true (List.all_eq_true.1 ha x hx)
          rw [this]
          have : k ≠ 0 := by intro h0; rw [h0] at hx; simp at hx
          simp [List.getD_eq_getElem?_getD, List.getElem?_take, show 0 < k by omega])
        have HB := Lib.hid hB
        clear hF hcap hB hown
        obtain ⟨b, hb⟩ : ∃ b, alikeB ks k = b := ⟨_, rfl⟩
        rw [hb] at HKT ⊢
        clear hb
        obtain ⟨ts, hts⟩ : ∃ ts, ks.take k = ts := ⟨_, rfl⟩
        rw [hts] at HSM HKT hsum C ⊢
        clear hts
        by_cases h0 : sumL ts = 0
        · have e0 : (((sumL ts : Nat) : Int) == 0) = true := by rw [h0]; rfl
          rw [fair_none HSM.out h0] at C
          have e1 : Fl.F.order theNan theNan = none := by decide
          clear h0
          generalize theNan = r at *
          go_wp2_with (go_at_call 39; refine C.out.mono ?_; rintro e w' ⟨rfl, ⟨d, rfl⟩⟩)
          go_ret
          exact ⟨rfl, below_drewN HB.out _⟩
        · have e0 : (((sumL ts : Nat) : Int) == 0) = false := beq_eq_false_iff_ne.2 (by omega)
          obtain ⟨p1, p2, p3⟩ := fair_pos HSM.out h0
          obtain ⟨r, hr⟩ : ∃ r, fairV (ts.map Fl.W) = r := ⟨_, rfl⟩
          rw [hr] at p1 p2 p3 C
          have o0' : (Fl.F.order r 0 == some .gt) = true := by
            obtain ⟨l1, l2, l3⟩ := Fl.low_num (x := r) (by omega)
            rw [Fl.gtr]
            unfold Fl.ltB Fl.sv
            rw [l1, l2, l3]
            show (!Fl.nan 0 && _ && decide ((if Fl.neg 0 then -(Fl.rung 0 : Int) else (Fl.rung 0 : Int)) < _)) = true
            rw [show Fl.nan 0 = false from by decide, show Fl.neg 0 = false from by decide, show Fl.rung 0 = 0 from by decide]
            simp
            omega
          have o0 : Fl.F.order r 0 = some .gt := eq_of_beq o0'
          clear hr o0'
          cases b with
          | true =>
            have p4 := p3 (HKT.out rfl)
            have o1 : Fl.F.order r 4607182418800017408 = some .eq := by rw [p4]; decide
            clear p1 p2 p3 p4 h0
            go_wp2_with (go_at_call 39; refine C.out.mono ?_; rintro e w' ⟨rfl, ⟨d, rfl⟩⟩)
            go_ret
            exact ⟨rfl, below_drewN HB.out _⟩
          | false =>
            have o2 : (Fl.F.order r 4607182418800017408 == some .lt || Fl.F.order r 4607182418800017408 == some .eq) = true := by
              obtain ⟨l1, l2, l3⟩ := Fl.low_num (x := r) (by omega)
              rw [Fl.lss, Fl.eql]
              unfold Fl.ltB Fl.eqB Fl.sv
              rw [l1, l2, l3]
              rw [show Fl.nan 4607182418800017408 = false from by decide, show Fl.neg 4607182418800017408 = false from by decide, show Fl.rung 4607182418800017408 = 4607182418800017408 from by decide]
              simp
              omega
            clear p1 p2 p3 h0
            rcases Bool.or_eq_true_iff.1 o2 with o3 | o3
            · have o1 : Fl.F.order r 4607182418800017408 = some .lt := eq_of_beq o3
              clear o2 o3
              go_wp2_with (go_at_call 39; refine C.out.mono ?_; rintro e w' ⟨rfl, ⟨d, rfl⟩⟩)
              go_ret
              exact ⟨rfl, below_drewN HB.out _⟩
            · have o1 : Fl.F.order r 4607182418800017408 = some .eq := eq_of_beq o3
              clear o2 o3
              go_wp2_with (go_at_call 39; refine C.out.mono ?_; rintro e w' ⟨rfl, ⟨d, rfl⟩⟩)
              go_ret
              exact ⟨rfl, below_drewN HB.out _⟩
    · obtain ⟨A', c', rfl, hF, hcap, _⟩ := owned_fs hown (by
        intro x hx
        obtain ⟨q, hq, rfl⟩ := List.mem_map.1 (List.mem_of_mem_take hx)
        have := HKE.out q hq
        have := Fl.W_lt (k := q) (by omega)
        omega) (by omega)
      have C := Lib.hid (fair_c A' k c' _ wr hF hcap)
      rw [← List.map_take] at C
      have HSM : Hid (Small (ks.take k)) := Lib.hid ⟨fun x hx => HKE.out x (List.mem_of_mem_take hx), by rw [List.length_take]; omega⟩
      have HKT : Hid (alikeB ks k = true → ∀ x ∈ ks.take k, x = (ks.take k).getD 0 0) := Lib.hid (by
        intro ha x hx
        unfold alikeB at ha
        have := of_decide_eq_true (List.all_eq_true.1 ha x hx)
        rw [this]
        have : k ≠ 0 := by intro h0; rw [h0] at hx; simp at hx
        simp [List.getD_eq_getElem?_getD, List.getElem?_take, show 0 < k by omega])
      have HB := Lib.hid hB
      clear hF hcap hB hown
      obtain ⟨b, hb⟩ : ∃ b, alikeB ks k = b := ⟨_, rfl⟩
      rw [hb] at HKT ⊢
      clear hb
      obtain ⟨ts, hts⟩ : ∃ ts, ks.take k = ts := ⟨_, rfl⟩
      rw [hts] at HSM HKT hsum C ⊢
      clear hts
      by_cases h0 : sumL ts = 0
      · have e0 : (((sumL ts : Nat) : Int) == 0) = true := by rw [h0]; rfl
        rw [fair_none HSM.out h0] at C
        have e1 : Fl.F.order theNan theNan = none := by decide
        clear h0
        generalize theNan = r at *
        go_wp2_with (go_at_call 39; refine C.out.mono ?_; rintro e w' ⟨rfl, ⟨d, rfl⟩⟩)
        go_ret
        exact ⟨rfl, below_drewN HB.out _⟩
      · have e0 : (((sumL ts : Nat) : Int) == 0) = false := beq_eq_false_iff_ne.2 (by omega)
        obtain ⟨p1, p2, p3⟩ := fair_pos HSM.out h0
        obtain ⟨r, hr⟩ : ∃ r, fairV (ts.map Fl.W) = r := ⟨_, rfl⟩
        rw [hr] at p1 p2 p3 C
        have o0' : (Fl.F.order r 0 == some .gt) = true := by
          obtain ⟨l1, l2, l3⟩ := Fl.low_num (x := r) (by omega)
          rw [Fl.gtr]
          unfold Fl.ltB Fl.sv
          rw [l1, l2, l3]
          show (!Fl.nan 0 && _ && decide ((if Fl.neg 0 then -(Fl.rung 0 : Int) else (Fl.rung 0 : Int)) < _)) = true
          rw [show Fl.nan 0 = false from by decide, show Fl.neg 0 = false from by decide, show Fl.rung 0 = 0 from by decide]
          simp
          omega
        have o0 : Fl.F.order r 0 = some .gt := eq_of_beq o0'
        clear hr o0'
        cases b with
        | true =>
          have p4 := p3 (HKT.out rfl)
          have o1 : Fl.F.order r 4607182418800017408 = some .eq := by rw [p4]; decide
          clear p1 p2 p3 p4 h0
          go_wp2_with (go_at_call 39; refine C.out.mono ?_; rintro e w' ⟨rfl, ⟨d, rfl⟩⟩)
          go_ret
          exact ⟨rfl, below_drewN HB.out _⟩
        | false =>
          have o2 : (Fl.F.order r 4607182418800017408 == some .lt || Fl.F.order r 4607182418800017408 == some .eq) = true := by
            obtain ⟨l1, l2, l3⟩ := Fl.low_num (x := r) (by omega)
            rw [Fl.lss, Fl.eql]
            unfold Fl.ltB Fl.eqB Fl.sv
            rw [l1, l2, l3]
            rw [show Fl.nan 4607182418800017408 = false from by decide, show Fl.neg 4607182418800017408 = false from by decide, show Fl.rung 4607182418800017408 = 4607182418800017408 from by decide]
            simp
            omega
          clear p1 p2 p3 h0
          rcases Bool.or_eq_true_iff.1 o2 with o3 | o3
          · have o1 : Fl.F.order r 4607182418800017408 = some .lt := eq_of_beq o3
            clear o2 o3
            go_wp2_with (go_at_call 39; refine C.out.mono ?_; rintro e w' ⟨rfl, ⟨d, rfl⟩⟩)
            go_ret
            exact ⟨rfl, below_drewN HB.out _⟩
          · have o1 : Fl.F.order r 4607182418800017408 = some .eq := eq_of_beq o3
            clear o2 o3
            go_wp2_with (go_at_call 39; refine C.out.mono ?_; rintro e w' ⟨rfl, ⟨d, rfl⟩⟩)
            go_ret
            exact ⟨rfl, below_drewN HB.out _⟩
end Go.Proofs.Ytplejggfeehbcaa
