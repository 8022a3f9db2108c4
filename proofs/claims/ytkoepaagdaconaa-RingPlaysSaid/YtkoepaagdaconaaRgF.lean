/-
  The walk of RingOrder: what is taken comes in the order in which it was put.
-/
import Derived.Test.YtkoepaagdaconaaRgE
import Derived.Test.YtkoepaagdaconaaInts
namespace Go.Proofs.Ytkoepaagdaconaa
open Go.RowKit
set_option linter.unusedSimpArgs false

def plus (n : Int) : Int := if n < 0 then -(n + 1) else n
theorem plus_wf {n : Int} (h : -9223372036854775808 ≤ n ∧ n ≤ 9223372036854775807) : 0 ≤ plus n ∧ plus n ≤ 9223372036854775807 := by
  unfold plus; split <;> omega
theorem int_wf {n : Int} (h : (Lit.int .i64 n).wf = true) : -9223372036854775808 ≤ n ∧ n ≤ 9223372036854775807 := by
  simp only [Lit.wf, Bool.and_eq_true, decide_eq_true_eq] at h
  exact ⟨h.1, h.2⟩

/-- the texts of the numbers from o on, below i -/
def qs (o i : Nat) : List Value := (List.range (i - o)).map fun j => .string (textV (o + j))
theorem qs_len (o i : Nat) : (qs o i).length = i - o := by simp [qs]
theorem qs_self (o : Nat) : qs o o = [] := by simp [qs]
theorem qs_snoc {o i : Nat} (h : o ≤ i) : qs o (i + 1) = qs o i ++ [.string (textV i)] := by
  unfold qs
  rw [show i + 1 - o = (i - o) + 1 by omega, List.range_succ, List.map_append]
  simp only [List.map_cons, List.map_nil]
  rw [show o + (i - o) = i by omega]
theorem qs_cons {o i : Nat} (h : o < i) : qs o i = .string (textV o) :: qs (o + 1) i := by
  unfold qs
  rw [show i - o = (i - (o + 1)) + 1 by omega, List.range_succ_eq_map, List.map_cons, List.map_map]
  rw [Nat.add_zero]
  congr 1
  apply List.map_congr_left
  intro j _
  show Value.string (textV (o + (j + 1))) = Value.string (textV (o + 1 + j))
  rw [show o + (j + 1) = o + 1 + j by omega]

set_option maxHeartbeats 8000000 in
set_option maxRecDepth 100000 in
theorem ringOrder_walk (size : Int) (A : Option Addr) (k c : Nat) (zs : List Int) (w : World) (hsz : (Lit.int .i64 size).wf = true) (hx : Is w A k zs ∧ k * 8 ≤ 140737488351232) :
    Calls Try.prog 3 #[.int .i64 size, .slice A k c] w fun e w' => e = .returned (.bool true) ∧ Below w.heap.size w w' := by
  have hsz := int_wf hsz
  obtain ⟨h, hk⟩ := hx
  have HF := Lib.hid h
  have hpn := plus_wf hsz
  obtain ⟨y, hy⟩ : ∃ y, plus size = y := ⟨_, rfl⟩
  have HY := Lib.hid hy
  rw [hy] at hpn
  obtain ⟨q, hq, hq2⟩ : ∃ q : Nat, y.tmod 100 = (q : Int) ∧ q < 100 := ⟨(y.tmod 100).toNat, by rw [Int.tmod_eq_emod_of_nonneg hpn.1]; omega, by rw [Int.tmod_eq_emod_of_nonneg hpn.1]; omega⟩
  have hq3 : y % 100 = (q : Int) := by rw [← hq, Int.tmod_eq_emod_of_nonneg hpn.1]
  clear h hy
  go_enter Try.func3, Try.ntmps3
  go_wp2_with fail
  refine (awake12_c _).mono ?_
  rintro e w1 ⟨rfl, hb1⟩
  have HB1 := Lib.hid hb1
  clear hb1
  go_upto_if 19 with (fail)
  go_cut [0] (fun v wc => v = .int .i64 y ∧ wc = w1)
  case first =>
    by_cases hz : size < 0
    · have := HY.out
      unfold plus at this
      rw [if_pos hz] at this
      have HY2 := Lib.hid this
      clear this
      go_wp2
      go_meet
      case rel => exact ⟨by first | rfl | (congr 1 <;> (have := HY2.out; omega)), rfl⟩
    · have := HY.out
      unfold plus at this
      rw [if_neg hz] at this
      have HY2 := Lib.hid this
      clear this
      go_wp2
      go_meet
      case rel => exact ⟨by first | rfl | (congr 1 <;> (have := HY2.out; omega)), rfl⟩
  case rest =>
  obtain ⟨rfl, rfl⟩ := hcut
  go_upto_region 5 with (fail)
  rw [show (1 + (q : Int)) = ((q + 1 : Nat) : Int) by omega]
  obtain ⟨n, hn⟩ : ∃ n, q + 1 = n := ⟨_, rfl⟩
  rw [hn]
  have hn1 : 1 ≤ n ∧ n ≤ 100 := by omega
  clear hn hq hq3 hq2
  go_wp2_with fail
  with_reducible refine (RS.new_c n (by omega) wc).mono ?_
  rintro e w2 ⟨b, g, rfl, hb, hg, hR, hB⟩
  have HR := Lib.hid hR
  have HBb : Hid (w.heap.size ≤ b) := Lib.hid (Nat.le_trans HB1.out.size hb)
  have HBg : Hid (w.heap.size ≤ g) := Lib.hid (Nat.le_trans HB1.out.size hg)
  have HB2 : Hid (Below w.heap.size w w2) := Lib.hid (HB1.out.trans (hB.mono HB1.out.size))
  clear hR hB hb hg
  go_wp2_with fail
  go_loopw [9, 10, 11] (fun a o i wr => ∃ (ci co t : Nat), t ≤ k ∧ t ≤ 5000 ∧ ci ≤ t ∧ co ≤ ci ∧ a = .int .i64 ci ∧ o = .int .i64 co ∧ i = .int .i64 t ∧ Ring wr 61 9 b g n (qs co ci) ∧ Below w.heap.size w wr) (fun _ _ i _ => k - (intOf i).toNat)
  case atStart => exact ⟨0, 0, 0, by omega, by omega, by omega, by omega, rfl, rfl, rfl, by rw [qs_self]; exact HR.out, HB2.out⟩
  case round =>
    obtain ⟨ci, co, t, ht, ht2, hci, hco, rfl, rfl, rfl, hR, hB⟩ := hrel
    have hfew := hR.few
    rw [qs_len] at hfew
    by_cases hc : t < k ∧ t < 5000
    · obtain ⟨hlt, hlt2⟩ := hc
      obtain ⟨ad, hA, hcell⟩ := (HF.out.below hB).at_ (by omega)
      have cx := hcell t hlt
      have hwf := HF.out.word t
      subst hA
      obtain ⟨z, hz⟩ : ∃ z, zs.getD t 0 = z := ⟨_, rfl⟩
      rw [hz] at cx hwf
      have HBr := Lib.hid hB
      have hk3 : (t : Int) < (k : Int) := by omega
      have hk4 : (t : Int) < 5000 := by omega
      have ht0 : (0 : Int) ≤ (t : Int) := by omega
      have hT : But (fun x => x = b ∨ x = g) wr wr := But.refl _ _
      by_cases h3 : z.tmod 3 = 0
      · have e3 : (z.tmod 3 != 0) = false := by simp [h3]
        by_cases hne : co < ci
        · rw [qs_cons hne] at hR
          have CK := Lib.hid (RS.take_c b g n _ _ wr hR (by omega))
          obtain ⟨T, hT⟩ : ∃ T, textV co = T := ⟨_, rfl⟩
          have HT := Lib.hid hT
          rw [hT] at CK
          have CX := Lib.hid (fun w => text_c co (by omega) w)
          rw [hT] at CX
          have d1 : (co : Int) < (ci : Int) := by omega
          clear hR hB hcell hz hT h3
          go_wp2_with (first
            | (go_at_call 11; refine CK.out.mono ?_; rintro e w3 ⟨rfl, hR3, hB3⟩; have HR3 := Lib.hid hR3; have HB3 := Lib.hid (hB3.below HBr.out HBr.out.size (fun i hi => by rcases hi with rfl | rfl; exact HBb.out; exact HBg.out)); clear hR3 hB3)
            | (go_at_call 10; refine (CX.out _).mono ?_; rintro e w4 ⟨rfl, rfl⟩))
          go_roundw
          case rel => exact ⟨ci, co + 1, t + 1, by omega, by omega, by omega, by omega, rfl, by go_num, by go_num, HR3.out, HB3.out⟩
          case measure => simp [intOf]; omega
        · have hcc : co = ci := by omega
          rw [hcc, qs_self] at hR
          have CK := Lib.hid (RS.takeEmpty_c b g n wr hR)
          have HR := Lib.hid hR
          have d1 : ¬ (co : Int) < (ci : Int) := by omega
          clear hR hB hcell hz h3 hcc
          go_wp2_with (first
            | (go_at_call 11; refine CK.out.mono ?_; rintro e w3 ⟨rfl, rfl⟩))
          go_roundw
          case rel => exact ⟨ci, co, t + 1, by omega, by omega, by omega, by omega, rfl, rfl, by go_num, by rw [show co = ci by omega, qs_self]; exact HR.out, HBr.out⟩
          case measure => simp [intOf]; omega
      · have e3 : (z.tmod 3 != 0) = true := by simp [h3]
        have CX := Lib.hid (fun w => text_c ci (by omega) w)
        by_cases hfull : ci - co < n
        · have CK := Lib.hid (RS.put_c b g n _ (textV ci) wr hR (by omega) (by rw [qs_len]; exact hfull))
          rw [← qs_snoc hco] at CK
          obtain ⟨T, hT⟩ : ∃ T, textV ci = T := ⟨_, rfl⟩
          rw [hT] at CK CX
          have d1 : (ci : Int) - (co : Int) < (n : Int) := by omega
          clear hR hB hcell hz hT h3
          go_wp2_with (first
            | (go_at_call 10; refine (CX.out _).mono ?_; rintro e w4 ⟨rfl, rfl⟩)
            | (go_at_call 9; refine CK.out.mono ?_; rintro e w3 ⟨rfl, hR3, hB3⟩; have HR3 := Lib.hid hR3; have HB3 := Lib.hid (hB3.below HBr.out HBr.out.size (fun i hi => by rcases hi with rfl | rfl; exact HBb.out; exact HBg.out)); clear hR3 hB3))
          go_roundw
          case rel => exact ⟨ci + 1, co, t + 1, by omega, by omega, by omega, by omega, by go_num, rfl, by go_num, HR3.out, HB3.out⟩
          case measure => simp [intOf]; omega
        · have CK := Lib.hid (RS.putFull_c b g n _ (textV ci) wr hR (by rw [qs_len]; omega))
          have HR := Lib.hid hR
          obtain ⟨T, hT⟩ : ∃ T, textV ci = T := ⟨_, rfl⟩
          rw [hT] at CK CX
          have d1 : ¬ (ci : Int) - (co : Int) < (n : Int) := by omega
          clear hR hB hcell hz hT h3
          go_wp2_with (first
            | (go_at_call 10; refine (CX.out _).mono ?_; rintro e w4 ⟨rfl, rfl⟩)
            | (go_at_call 9; refine CK.out.mono ?_; rintro e w3 ⟨rfl, d, rfl⟩))
          go_roundw
          case rel => exact ⟨ci, co, t + 1, by omega, by omega, by omega, by omega, rfl, rfl, by go_num, HR.out.drewN d, below_drewN HBr.out d⟩
          case measure => simp [intOf]; omega
    · have HR := Lib.hid hR
      have HBr := Lib.hid hB
      clear hR hB
      have hx : (¬ (t : Int) < (k : Int)) ∨ ((t : Int) < (k : Int) ∧ ¬ (t : Int) < 5000) := by omega
      clear hc
      rcases hx with hx | ⟨hx1, hx⟩
      all_goals (
        go_wp2_with fail
        go_loopw [10] (fun o wx => ∃ cp : Nat, cp ≤ ci ∧ o = .int .i64 cp ∧ Ring wx 61 9 b g n (qs cp ci) ∧ Below w.heap.size w wx) (fun o _ => ci - (intOf o).toNat)
        case atStart => exact ⟨co, hco, rfl, HR.out, HBr.out⟩
        case round =>
          obtain ⟨cp, hcp, rfl, hR2, hB2⟩ := hrel
          have HBx := Lib.hid hB2
          clear hB2
          by_cases hne : cp < ci
          · rw [qs_cons hne] at hR2
            have CK := Lib.hid (RS.take_c b g n _ _ wr hR2 (by omega))
            have CX := Lib.hid (fun w => text_c cp (by omega) w)
            obtain ⟨T, hT⟩ : ∃ T, textV cp = T := ⟨_, rfl⟩
            rw [hT] at CK CX
            have d1 : (cp : Int) < (ci : Int) := by omega
            clear hR2 hT
            go_wp2_with (first
              | (go_at_call 11; refine CK.out.mono ?_; rintro e w3 ⟨rfl, hR3, hB3⟩; have HR3 := Lib.hid hR3; have HB3 := Lib.hid (hB3.below HBx.out HBx.out.size (fun i hi => by rcases hi with rfl | rfl; exact HBb.out; exact HBg.out)); clear hR3 hB3)
              | (go_at_call 10; refine (CX.out _).mono ?_; rintro e w4 ⟨rfl, rfl⟩))
            go_roundw
            case rel => exact ⟨cp + 1, by omega, by go_num, HR3.out, HB3.out⟩
            case measure => simp [intOf]; omega
          · have hcc : cp = ci := by omega
            rw [hcc, qs_self] at hR2
            have CL := Lib.hid (RS.len_c b g n [] wr hR2)
            have d1 : ¬ (cp : Int) < (ci : Int) := by omega
            clear hR2 hcc
            go_wp2_with (go_at_call 12; refine CL.out.mono ?_; rintro e w4 ⟨rfl, rfl⟩)
            go_ret
            exact ⟨rfl, HBx.out⟩)
end Go.Proofs.Ytkoepaagdaconaa
