/-
  The walk of LotsAll: each can be chosen; behind the schedule the first.
-/
import Derived.Test.YtplejggfeehbcaaLotOpen
import Derived.Test.YtplejggfeehbcaaScale
import Derived.Test.YtplejggfeehbcaaLotLawA
namespace Go.Proofs.Ytplejggfeehbcaa
open Go.RowKit
set_option linter.unusedSimpArgs false

theorem pickV_in {raw n : Int} (h : 1 ≤ n) (hr : -9223372036854775808 ≤ raw ∧ raw ≤ 9223372036854775807) : 0 ≤ pickV raw n ∧ pickV raw n < n := by
  unfold pickV
  rw [if_neg (by omega)]
  have hp := plus_wf hr
  rw [Int.tmod_eq_emod_of_nonneg hp.1]
  exact ⟨Int.emod_nonneg _ (by omega), Int.emod_lt_of_pos _ (by omega)⟩
theorem heavyV_in {xs : List Nat} {n : Int} (h : 1 ≤ n) : 0 ≤ heavyV xs n ∧ heavyV xs n < n := by
  rw [heavyV_best _ _ (by omega)]
  have hb := bestAt_bounds (padL xs n) 1 (padL xs n).length
  have hl := padL_len xs n (by omega)
  split
  · omega
  · refine ⟨by omega, ?_⟩
    split at hl <;> omega
theorem chooseV_in {p : Int} {xs : List Nat} {n : Int} (h : 1 ≤ n) (hr : -9223372036854775808 ≤ p ∧ p ≤ 9223372036854775807) : 0 ≤ chooseV p xs n ∧ chooseV p xs n < n := by
  unfold chooseV
  split
  · exact pickV_in h hr
  · exact heavyV_in h

/-- one stands out -/
theorem bestAt_only (ws : List Nat) (k N : Nat) (hn : ∀ i, Fl.nan (ws.getD i 0) = false) (h1 : ∀ t, t < N → 0 < t → t ≠ k → Fl.ordV (ws.getD t 0) (ws.getD 0 0) ≠ 1) (h2 : k ≠ 0 → Fl.ordV (ws.getD k 0) (ws.getD 0 0) = 1)
    (h3 : ∀ t, t < N → t ≠ k → Fl.ordV (ws.getD t 0) (ws.getD k 0) ≠ 1) : ∀ t, t ≤ N → bestAt ws 1 t = if t = 0 then -1 else if t ≤ k then 0 else (k : Int)
  | 0, _ => rfl
  | t + 1, ht => by
    have ih := bestAt_only ws k N hn h1 h2 h3 t (by omega)
    simp only [bestAt]
    rw [ih, hn t]
    rw [if_neg (show ¬ (t + 1 = 0) by omega)]
    by_cases t0 : t = 0
    · subst t0
      rw [if_pos rfl, if_pos ⟨rfl, .inl (by omega)⟩]
      split <;> omega
    · rw [if_neg t0]
      by_cases tk : t ≤ k
      · rw [if_pos tk]
        by_cases te : t = k
        · subst te
          rw [if_pos ⟨rfl, .inr (h2 t0)⟩, if_neg (by omega)]
        · rw [if_neg (by rintro ⟨_, h | h⟩; · omega
                         · exact h1 t (by omega) (by omega) te h), if_pos (by omega)]
      · rw [if_neg tk, if_neg (by rintro ⟨_, h | h⟩; · omega
                                  · exact h3 t (by omega) (by omega) (by simpa using h)), if_neg (by omega)]

def negs (m : Nat) : List Nat := (List.range m).map fun (j : Nat) => Fl.SW (-((j : Int) + 1)) 0
def oneUp (m k : Nat) : List Nat := (negs m).set k 4602678819172646912
theorem negs_get (m j : Nat) (h : j < m) : (negs m)[j]? = some (Fl.SW (-((j : Int) + 1)) 0) := by simp [negs, h]
theorem oneUp_get (m k j : Nat) (hk : k < m) (hm : m ≤ 1000) : Fl.nan ((oneUp m k).getD j 0) = false ∧ (j ≠ k → (oneUp m k).getD j 0 = if j < m then Fl.SW (-((j : Int) + 1)) 0 else 0) ∧ (oneUp m k).getD k 0 = 4602678819172646912 := by
  have e1 : (oneUp m k).getD k 0 = 4602678819172646912 := by
    unfold oneUp
    rw [List.getD_eq_getElem?_getD, List.getElem?_set_self (by simp [negs]; exact hk)]; rfl
  have e2 : j ≠ k → (oneUp m k).getD j 0 = if j < m then Fl.SW (-((j : Int) + 1)) 0 else 0 := by
    intro hj
    unfold oneUp
    rw [List.getD_eq_getElem?_getD, List.getElem?_set_ne (Ne.symm hj)]
    by_cases h : j < m
    · rw [negs_get m j h, if_pos h]; rfl
    · rw [if_neg h, List.getElem?_eq_none (by simp [negs]; omega)]; rfl
  refine ⟨?_, e2, e1⟩
  by_cases hj : j = k
  · rw [hj, e1]; decide
  · rw [e2 hj]
    split
    · exact (Fl.SW_key _ 0 (by omega) (by omega)).1
    · decide
theorem oneUp_heavy (m k : Nat) (hk : k < m) (hm : m ≤ 1000) : heavyV (oneUp m k) (m : Int) = k := by
  have hlen : (oneUp m k).length = m := by simp [oneUp, negs]
  have hp : padL (oneUp m k) (m : Int) = oneUp m k := by
    unfold padL
    rw [if_pos (by rw [hlen]; omega), Int.toNat_natCast, List.take_of_length_le (by omega)]
  rw [heavyV_best _ _ (by omega), hp, hlen]
  have hkey : Fl.key 4602678819172646912 = 13826050856027422720 := by decide
  have hneg : ∀ j : Nat, j < m → Fl.key (Fl.SW (-((j : Int) + 1)) 0) ≤ 9223372036854775807 := by
    intro j hj
    rw [(Fl.SW_key _ 0 (by omega) (by omega)).2.2, if_pos (by omega)]
    omega
  have hb := bestAt_only (oneUp m k) k m (fun i => (oneUp_get m k i hk hm).1) ?_ ?_ ?_ m (Nat.le_refl _)
  · rw [hb, if_neg (by omega), if_neg (by omega)]
    rw [if_neg (by omega)]
  · intro t htm ht htk
    rw [(oneUp_get m k t hk hm).2.1 htk, if_pos htm]
    by_cases hk0 : k = 0
    · subst hk0
      rw [(oneUp_get m 0 0 hk hm).2.2]
      unfold Fl.ordV
      have := hneg t htm
      rw [hkey, if_pos (by omega)]; decide
    · rw [(oneUp_get m k 0 hk hm).2.1 (Ne.symm hk0), if_pos (by omega)]
      unfold Fl.ordV
      have := (Fl.SW_lt (x := -((t : Int) + 1)) (y := -(((0 : Nat) : Int) + 1)) 0 (by omega) (by omega) (by omega)).2 (by omega)
      rw [if_pos this]; decide
  · intro hk0
    rw [(oneUp_get m k k hk hm).2.2, (oneUp_get m k 0 hk hm).2.1 (Ne.symm hk0), if_pos (by omega)]
    have := hneg 0 (by omega)
    unfold Fl.ordV
    rw [hkey, if_neg (by omega), if_pos (by omega)]
  · intro t htm htk
    rw [(oneUp_get m k t hk hm).2.1 htk, (oneUp_get m k t hk hm).2.2, if_pos htm]
    unfold Fl.ordV
    have := hneg t htm
    rw [hkey, if_pos (by omega)]; decide

theorem neg_SW (j : Nat) (hj : j < 1000) : Op.negFloat .f64 (floatOfInt .f64 ((j : Int) + 1)) = Fl.SW (-((j : Int) + 1)) 0 := by
  have h1 := Fl.scaled_lt (k := j + 1) (e := 0) (by omega) (by omega)
  have e1 : floatOfInt .f64 ((j : Int) + 1) = Fl.W (j + 1) := by
    show Fl.F.nearest (decide ((j : Int) + 1 < 0)) ((j : Int) + 1).natAbs 0 = Fl.F.nearest false (j + 1) 0
    rw [decide_eq_false (by omega), show ((j : Int) + 1).natAbs = j + 1 by omega]
  rw [e1, neg_word (by omega), if_neg (by omega)]
  unfold Fl.SW
  rw [if_neg (by omega), decide_eq_true (show -((j : Int) + 1) < 0 by omega)]
  unfold Ieee.Format.word
  rw [if_pos rfl, Fl.sw, show (-((j : Int) + 1)).natAbs = j + 1 by omega]
  omega

set_option maxHeartbeats 8000000 in
set_option maxRecDepth 100000 in
theorem lotsAll_walk (M : Option Addr) (len cap : Nat) (rs : List Raw) (L : List Lot) (n i : Int) (w : World) (hx : Cs w M (rawCells rs) ∧ Lts w (fun _ => True) rs L ∧ L.length = len ∧ (M = none → len = 0 ∧ cap = 0) ∧ len * 32 ≤ 140737488351232) (hn : (Lit.int .i64 n).wf = true) (hi : (Lit.int .i64 i).wf = true) :
    Calls Try.prog 15 #[.slice M len cap, .int .i64 n, .int .i64 i] w fun e w' => e = .returned (.bool true) ∧ Below w.heap.size w w' := by
  have hn := int_wf hn
  have hi := int_wf hi
  obtain ⟨hC, hL, hLn, hMn, hl32⟩ := hx
  have hpn := plus_wf hn
  have hpi := plus_wf hi
  obtain ⟨y, hy⟩ : ∃ y, plus n = y := ⟨_, rfl⟩
  have HY := Lib.hid hy
  obtain ⟨z, hz⟩ : ∃ z, plus i = z := ⟨_, rfl⟩
  have HZ := Lib.hid hz
  rw [hy] at hpn
  rw [hz] at hpi
  obtain ⟨q, hq, hq2⟩ : ∃ q : Nat, y.tmod 200 = (q : Int) ∧ q < 200 := ⟨(y.tmod 200).toNat, by rw [Int.tmod_eq_emod_of_nonneg hpn.1]; omega, by rw [Int.tmod_eq_emod_of_nonneg hpn.1]; omega⟩
  have HC := Lib.hid hC
  have HLt := Lib.hid hL
  have HLn := Lib.hid hLn
  have HMn := Lib.hid hMn
  clear hC hL hLn hMn hy hz
  go_enter Try.func15, Try.ntmps15
  go_wp2_with fail
  refine (awake17_c _).mono ?_
  rintro e w1 ⟨rfl, hb1⟩
  have HB1 := Lib.hid hb1
  clear hb1
  go_upto_if 20 with (fail)
  go_cut [1] (fun v wc => v = .int .i64 y ∧ wc = w1)
  case first =>
    by_cases hz : n < 0
    · have := HY.out
      unfold plus at this
      rw [if_pos hz] at this
      have HY2 := Lib.hid this
      clear this
      go_wp2
      go_meet
      case rel => exact ⟨by first | rfl | (congr 1 <;> (have := HY2.out; omega)), rfl⟩
    · have := HY.out
      unfold plus at this
      rw [if_neg hz] at this
      have HY2 := Lib.hid this
      clear this
      go_wp2
      go_meet
      case rel => exact ⟨by first | rfl | (congr 1 <;> (have := HY2.out; omega)), rfl⟩
  case rest =>
  obtain ⟨rfl, rfl⟩ := hcut
  go_upto_if 25 with (fail)
  go_cut [2] (fun v wd => v = .int .i64 z ∧ wd = wc)
  case first =>
    by_cases hz : i < 0
    · have := HZ.out
      unfold plus at this
      rw [if_pos hz] at this
      have HY2 := Lib.hid this
      clear this
      go_wp2
      go_meet
      case rel => exact ⟨by first | rfl | (congr 1 <;> (have := HY2.out; omega)), rfl⟩
    · have := HZ.out
      unfold plus at this
      rw [if_neg hz] at this
      have HY2 := Lib.hid this
      clear this
      go_wp2
      go_meet
      case rel => exact ⟨by first | rfl | (congr 1 <;> (have := HY2.out; omega)), rfl⟩
  case rest =>
  obtain ⟨rfl, rfl⟩ := hcut
  go_upto_region 7 with (fail)
  rw [show (1 + (q : Int)) = ((q + 1 : Nat) : Int) by omega]
  obtain ⟨m, hm⟩ : ∃ m, q + 1 = m := ⟨_, rfl⟩
  rw [hm]
  have hm1 : 1 ≤ m ∧ m ≤ 200 := by omega
  clear hm
  obtain ⟨k, hk, hk2⟩ : ∃ k : Nat, z.tmod (m : Int) = (k : Int) ∧ k < m := by
    refine ⟨(z.tmod (m : Int)).toNat, ?_, ?_⟩
    · rw [Int.tmod_eq_emod_of_nonneg hpi.1]; have := Int.emod_nonneg z (b := (m : Int)) (by omega); omega
    · rw [Int.tmod_eq_emod_of_nonneg hpi.1]; have := Int.emod_lt_of_pos z (b := (m : Int)) (by omega); omega
  have m0 : (m : Int) ≠ 0 := by omega
  have m1 : ((m : Int) == 0) = false := beq_eq_false_iff_ne.2 m0
  have hmk := fun w => run_make_flo (m : Int) (by omega) (by omega) w
  rw [Int.toNat_natCast] at hmk
  go_wp2_with fail
  have hneg : ∀ (x : Nat) (w : World), (Op.unary .neg (.float .f64 x)).run Try.prog w = .ok (.float .f64 (Op.negFloat .f64 x)) w := fun _ _ => rfl
  have HNL : Hid ((flo (negs m)).length = m) := Lib.hid (by rw [flo_len]; simp [negs])
  go_loopw [11] (fun a wr => ∃ j : Nat, j ≤ m ∧ a = .int .i64 j ∧ Row wr wc.heap.size 24 (filled (flo (negs m)) (.float .f64 0) m j) ∧ Below wc.heap.size wc wr) (fun a _ => m - (intOf a).toNat)
  case atStart =>
    refine ⟨0, by omega, rfl, ?_, (Below.refl _ _).alloc (Nat.le_refl _) _⟩
    rw [filled_zero]
    exact Row.new wc _ _
  case round =>
    obtain ⟨j, hj, rfl, hR, hB⟩ := hrel
    by_cases hlt : j < m
    · have cu : wr.cell? ⟨wc.heap.size, j, none⟩ = some (.float .f64 0) := by rw [hR.cell, filled_at _ _ _ _ HNL.out hlt]
      have fu := hR.frozen j
      have HR := Lib.hid hR
      have HB := Lib.hid hB
      clear hR hB
      go_wp2
      go_roundw
      case rel =>
        refine ⟨j + 1, by omega, by go_num, ?_, HB.out.setCell (p := ⟨wc.heap.size, j, none⟩) (Nat.le_refl _) _⟩
        rw [← filled_set _ _ (.float .f64 (Fl.SW (-((j : Int) + 1)) 0)) _ _ HNL.out hlt ?_]
        · have := HR.out.set j (.float .f64 (Fl.SW (-((j : Int) + 1)) 0))
          rw [← neg_SW j (by omega)] at this ⊢
          rw [show (1 + (j : Int)) = (j : Int) + 1 by omega]
          exact this
        · rw [flo, List.getElem?_map, negs_get m j hlt]; rfl
      case measure => simp [intOf]; omega
    · have hjm : j = m := by omega
      subst hjm
      clear hlt hj
      rw [filled_all _ _ _ HNL.out] at hR
      have cu : wr.cell? ⟨wc.heap.size, k, none⟩ = some (.float .f64 (Fl.SW (-((k : Int) + 1)) 0)) := by
        rw [hR.cell, flo, List.getElem?_map, negs_get j k hk2]; rfl
      have fu := hR.frozen k
      have HR : Hid (Row (wr.setCell ⟨wc.heap.size, k, none⟩ (.float .f64 4602678819172646912)) wc.heap.size 24 (flo (oneUp j k) ++ [])) := Lib.hid (by
        rw [List.append_nil]
        have := hR.set k (.float .f64 4602678819172646912)
        unfold oneUp flo
        rw [List.map_set]
        exact this)
      have HB := Lib.hid (hB.setCell (p := ⟨wc.heap.size, k, none⟩) (Nat.le_refl _) (.float .f64 4602678819172646912))
      have HLO : Hid ((oneUp j k).length = j) := Lib.hid (by simp [oneUp, negs])
      clear hR hB
      go_upto_region 14 with (fail)
      generalize (wr.setCell ⟨wc.heap.size, k, none⟩ (.float .f64 4602678819172646912)) = w3 at *
      clear cu fu
      have HFs : Hid (Fs w3 (some ⟨wc.heap.size, 0, none⟩) j (oneUp j k)) := Lib.hid (by
        have := Fs.of_row HR.out (by rw [HLO.out]; omega) (by
          intro x hx
          obtain ⟨t, ht⟩ := List.getElem?_of_mem hx
          have h1 := (List.getElem?_eq_some_iff.1 ht).1
          rw [HLO.out] at h1
          have h2 : (oneUp j k).getD t 0 = x := by rw [List.getD_eq_getElem?_getD, ht]; rfl
          rw [← h2]
          by_cases htk : t = k
          · rw [htk, (oneUp_get j k k hk2 (by omega)).2.2]; decide
          · rw [(oneUp_get j k t hk2 (by omega)).2.1 htk, if_pos h1]
            exact (Fl.SW_key _ 0 (by omega) (by omega)).2.1)
        rw [HLO.out] at this
        exact this)
      have HPk : Hid (pickV k j = k) := Lib.hid (by
        unfold pickV
        rw [if_neg (by omega), show plus (k : Int) = k from if_neg (by omega), Int.tmod_eq_emod_of_nonneg (by omega), Int.emod_eq_of_lt (by omega) (by omega)])
      have HHv : Hid (heavyV (oneUp j k) (j : Int) = k) := Lib.hid (oneUp_heavy j k hk2 (by omega))
      have HB3 : Hid (Below w.heap.size w w3) := Lib.hid (HB1.out.trans (HB.out.mono HB1.out.size))
      go_wp2_with fail
      refine (pick_c k j w3 ⟨by omega, by omega⟩ (by omega)).mono ?_
      rintro e w4 ⟨rfl, rfl⟩
      rw [HPk.out]
      go_wp2_with fail
      refine (heavy_c _ j j (oneUp j k) j w3 HFs.out (by omega) (fun h => by cases h) (by omega) (by omega)).mono ?_
      rintro e w4 ⟨rfl, hb4⟩
      rw [HHv.out]
      have HB4 : Hid (Below w.heap.size w w4) := Lib.hid (HB3.out.trans (hb4.mono HB3.out.size))
      clear hb4
      go_wp2_with fail
      refine (new_c M len cap rs L w4 (HC.out.below HB4.out) (HLt.out.below HB4.out) HLn.out HMn.out hl32).mono ?_
      rintro e w5 ⟨b, rfl, hb, hS, hb5⟩
      have HS := Lib.hid hS
      have HBb : Hid (w.heap.size ≤ b) := Lib.hid (Nat.le_trans HB4.out.size hb)
      have HB5 : Hid (Below w.heap.size w w5) := Lib.hid (HB4.out.trans (hb5.mono HB4.out.size))
      clear hS hb hb5
      go_wp2_with fail
      clear HFs HR HB HLO HPk HHv hneg hmk
      go_loopw [15] (fun a wr => ∃ t : Nat, t ≤ len ∧ t ≤ 2000 ∧ (j ≤ 1 → t = 0) ∧ a = .int .i64 t ∧ Sched wr b L t ∧ Below w.heap.size w wr) (fun a _ => len - (intOf a).toNat)
      case atStart => exact ⟨0, by omega, by omega, fun _ => rfl, rfl, HS.out, HB5.out⟩
      case round =>
        obtain ⟨t, ht, ht2, ht3, rfl, hS, hB⟩ := hrel
        by_cases hlt : t < len
        · by_cases hlt2 : t < 2000
          · by_cases hj1 : 1 < j
            · obtain ⟨l, hl⟩ : ∃ l, L[t]? = some l := ⟨_, List.getElem?_eq_getElem (by rw [HLn.out]; exact hlt)⟩
              obtain ⟨r, hr⟩ : ∃ r, rs[t]? = some r := ⟨_, List.getElem?_eq_getElem (by rw [HLt.out.len, HLn.out]; exact hlt)⟩
              have hp := HLt.out.p t r l hr hl
              have HWs := Lib.hid (HLt.out.ws t r l hr hl)
              have hv1 : nextV L t (j : Int) = chooseV l.1 l.2 j := by
                unfold nextV lotAt
                rw [if_neg (by omega), if_neg (by omega), hl]; rfl
              have hu1 : nextU L t (j : Int) = t + 1 := by
                unfold nextU
                rw [if_neg (by omega), if_pos (by rw [HLn.out]; exact hlt)]
              have hin := chooseV_in (p := l.1) (xs := l.2) (n := (j : Int)) (by omega) hp.2
              have CN := Lib.hid (next_c b L t j wr hS (by omega))
              have CC := Lib.hid (fun w' (hb : Below w.heap.size w w') => choose_c l.1 r.A r.k r.c l.2 j w' (HWs.out.1.below hb) HWs.out.2.1 HWs.out.2.2.1 HWs.out.2.2.2.1 hp.2 (by omega))
              rw [hv1, hu1] at CN
              obtain ⟨v, hv⟩ : ∃ v, chooseV l.1 l.2 (j : Int) = v := ⟨_, rfl⟩
              rw [hv] at CN hin CC
              obtain ⟨ad, hM, hcell⟩ := HC.out (by rw [rawCells_len, HLt.out.len, HLn.out]; omega)
              have a0 : w.cell? (ad.add (t * 2)) = some (.int .i64 r.p) := by
                rw [hcell (t * 2) (by rw [rawCells_len, HLt.out.len, HLn.out]; omega), Nat.mul_comm]
                exact rawCells_p rs t r hr
              have a1 : w.cell? (ad.add (t * 2 + 1)) = some r.sl := by
                rw [hcell (t * 2 + 1) (by rw [rawCells_len, HLt.out.len, HLn.out]; omega), Nat.mul_comm]
                exact rawCells_s rs t r hr
              rw [← addr_add] at a1
              obtain ⟨ae, hae⟩ : ∃ ae, ad.add (t * 2) = ae := ⟨_, rfl⟩
              rw [hae] at a0 a1
              rw [hp.1] at a0
              have HA0 := Lib.hid a0
              have HA1 := Lib.hid a1
              have HBr := Lib.hid hB
              clear a0 a1 hcell hl hr hp hv1 hu1 hv hS hB HWs
              subst hM
              go_wp2_with fail
              refine CN.out.mono ?_
              rintro e w6 ⟨rfl, hS6, hg6⟩
              have HB6 : Hid (Below w.heap.size w w6) := Lib.hid (HBr.out.grown hg6 HBr.out.size (fun x hx => by cases hx; exact HBb.out))
              have HS6 := Lib.hid hS6
              clear hS6 hg6
              have a0 := (HB6.out.cell (p := ae) (cell_lt HA0.out)).trans HA0.out
              have a1 := (HB6.out.cell (p := ae.add 1) (cell_lt HA1.out)).trans HA1.out
              unfold Raw.sl at a1
              simp [Addr.add] at a1
              go_wp2_with fail
              refine (CC.out w6 HB6.out).mono ?_
              rintro e w7 ⟨rfl, hb7⟩
              have HS7 := Lib.hid (HS6.out.below hb7)
              have HB7 : Hid (Below w.heap.size w w7) := Lib.hid (HB6.out.trans (hb7.mono HB6.out.size))
              clear a0 a1 hb7
              have d1 : decide (v < 0) = false := decide_eq_false (by omega)
              have d2 : decide (v ≥ (j : Int)) = false := decide_eq_false (by omega)
              go_wp2
              go_roundw
              case rel => exact ⟨t + 1, by omega, by omega, fun h => by omega, by go_num, HS7.out, HB7.out⟩
              case measure => simp [intOf]; omega
            · have HBr := Lib.hid hB
              clear hS hB
              by_cases hbig : 2000 < len
              · have g1 : (2000 : Int) < (len : Int) := by omega
                go_wp2
                go_ret
                exact ⟨rfl, HBr.out⟩
              · have g1 : ¬ (2000 : Int) < (len : Int) := by omega
                have e1 : ((j : Int) == 1) = true := beq_iff_eq.2 (by omega)
                go_wp2
                go_ret
                exact ⟨rfl, HBr.out⟩
          · have HBr := Lib.hid hB
            clear hS hB
            have g1 : (2000 : Int) < (len : Int) := by omega
            go_wp2
            go_ret
            exact ⟨rfl, HBr.out⟩
        · have g1 : ¬ (2000 : Int) < (len : Int) := by omega
          by_cases hj1 : j = 1
          · have HBr := Lib.hid hB
            clear hS hB
            have e1 : ((j : Int) == 1) = true := beq_iff_eq.2 (by omega)
            go_wp2
            go_ret
            exact ⟨rfl, HBr.out⟩
          · have e1 : ((j : Int) == 1) = false := beq_eq_false_iff_ne.2 (by omega)
            have htl : t = len := by omega
            have hv1 : nextV L t (j : Int) = 0 := by
              unfold nextV lotAt
              rw [if_neg (by omega), if_neg (by omega), List.getElem?_eq_none (by rw [HLn.out]; omega)]
              show pickV 0 j = 0
              unfold pickV
              rw [if_neg (by omega)]
              show (0 : Int).tmod j = 0
              exact Int.zero_tmod _
            have hu1 : nextU L t (j : Int) = t := by
              unfold nextU
              rw [if_neg (by omega), if_neg (by rw [HLn.out]; omega)]
            have CN := Lib.hid (next_c b L t j wr hS (by omega))
            rw [hv1, hu1] at CN
            have HBr := Lib.hid hB
            have HTL := Lib.hid htl
            clear hS hB hv1 hu1 htl
            go_wp2_with (first
              | (go_at_call 64; refine CN.out.mono ?_; rintro e w6 ⟨rfl, hS6, hg6⟩; have HB6 : Hid (Below w.heap.size w w6) := Lib.hid (HBr.out.grown hg6 HBr.out.size (fun x hx => by cases hx; exact HBb.out)); have CL := Lib.hid (left_c b L t w6 hS6); rw [show ((L.length : Nat) : Int) - (t : Int) = 0 by rw [HLn.out, HTL.out]; omega] at CL; clear hS6 hg6)
              | (go_at_call 67; refine CL.out.mono ?_; rintro e w7 ⟨rfl, ⟨d, rfl⟩⟩))
            go_ret
            exact ⟨rfl, below_drewN HB6.out _⟩
end Go.Proofs.Ytplejggfeehbcaa
