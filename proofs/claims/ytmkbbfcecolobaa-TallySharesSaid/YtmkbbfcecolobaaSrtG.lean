/-
  symMerge of a list of places, the short case of the right run.
-/
import Derived.Test.YtmkbbfcecolobaaSrtF
namespace Go.Proofs.Ytmkbbfcecolobaa
open Go.RowKit Srt
set_option linter.unusedSimpArgs false

set_option maxRecDepth 100000 in
set_option maxHeartbeats 2000000 in
theorem symB_c (g N c a m b bx : Nat) (f : Nat → Nat) (K : Nat → Nat) (o : Nat → Nat → Int) (w : World) (h : Arr w g N f) (hc : Cmp g w bx N K o) (ham : a + 1 < m) (hm : b = m + 1) (hbN : b ≤ N) (hlt : ∀ k, k < N → f k < N) (hS : Sorted K f a m) (hlow : Low f a m b) :
    Calls Try.prog 57 #[.slice (some ⟨g, 0, none⟩) N c, .int .i64 a, .int .i64 m, .int .i64 b, cmpV bx] w fun e w' => e = .returned (.tuple #[]) ∧ ∃ f', Arr w' g N f' ∧ Mv a b f f' ∧ Sorted K f' a b ∧ Chg g w w' := by
  have hN := h.small
  have H0 := Lib.hid h
  have HC := Lib.hid hc
  have HL := Lib.hid hlt
  have HS := Lib.hid hS
  have HW := Lib.hid hlow
  have HM := Lib.hid hm
  have hm1 : b ≤ m + 1 := by omega
  have hm2 : m < b := by omega
  clear h hc hlt hS hlow hm
  have s0 : ((m : Int) - (a : Int) == 1) = false := by rw [beq_eq_false_iff_ne]; omega
  have s1 : ((b : Int) - (m : Int) == 1) = true := by rw [beq_iff_eq]; omega
  go_enter Try.func57, Try.ntmps57
  go_wp2
  go_loopw [14, 15, 16] (fun x y _ wr => ∃ i j : Nat, a ≤ i ∧ i ≤ j ∧ j ≤ m ∧ x = .int .i64 i ∧ y = .int .i64 j ∧ Arr wr g N f ∧ (∀ k, a ≤ k → k < i → K (f k) ≤ K (f m)) ∧ (∀ k, j ≤ k → k < m → K (f m) < K (f k)) ∧ Chg g w wr) (fun x y _ _ => (intOf y).toNat - (intOf x).toNat)
  case atStart => exact ⟨a, m, by omega, by omega, by omega, rfl, rfl, H0.out, fun k _ _ => by omega, fun k _ _ => by omega, Chg.refl _ _⟩
  case round =>
    obtain ⟨i, j, hi1, hij, hj, rfl, rfl, hA, hK1, hK2, hC⟩ := hrel
    have HA := Lib.hid hA
    have HK1 := Lib.hid hK1
    have HK2 := Lib.hid hK2
    have HG := Lib.hid hC
    clear hA hK1 hK2 hC
    by_cases hlt : i < j
    · have d0 : decide ((i : Int) < (j : Int)) = true := decide_eq_true (by omega)
      obtain ⟨q, hq⟩ : ∃ q, (i + j) / 2 = q := ⟨_, rfl⟩
      have hqi : ((i : Int) + (j : Int)) / 2 = (q : Int) := by omega
      have hq1 : i ≤ q := by omega
      have hq2 : q < j := by omega
      have cx := HA.out.cell q (by omega)
      have cy := HA.out.cell m (by omega)
      have mx := HL.out q (by omega)
      have my := HL.out m (by omega)
      have CO := Lib.hid (fun w' h => HC.out.call w' h (f m) (f q) my mx)
      have LT := HC.out.lt (f m) (f q) my mx
      obtain ⟨u, hu⟩ : ∃ u, f q = u := ⟨_, rfl⟩
      obtain ⟨v, hv⟩ : ∃ v, f m = v := ⟨_, rfl⟩
      rw [hu] at cx CO LT mx
      rw [hv] at cy CO LT my
      have HU := Lib.hid hu
      have HV := Lib.hid hv
      clear hu hv hq
      by_cases ho : o v u < 0
      · have d1 : decide (o v u < 0) = true := decide_eq_true ho
        have HKlt := Lib.hid (LT.1 ho)
        clear LT
        go_wp2_with fail
        go_quiet ((go_at_call 33; refine (CO.out _ (HG.out.trans (Chg.drewN g _ _))).mono ?_; rintro e w' ⟨rfl, n, rfl⟩; exact ⟨rfl, _, drewN_drewN _ _ _⟩))
        go_wp2_with fail
        go_roundw
        case rel =>
          refine ⟨i, q, by omega, by omega, by omega, rfl, by go_num, HA.out.drewN _, HK1.out, fun k h1 h2 => ?_, HG.out.trans (Chg.drewN g _ _)⟩
          have e1 := HS.out.key (i := q) (j := k) (by omega) h1 h2
          rw [HU.out] at e1; rw [HV.out]
          exact Nat.lt_of_lt_of_le HKlt.out e1
        case measure => simp [intOf] <;> omega
      · have d1 : decide (o v u < 0) = false := decide_eq_false ho
        have HKle : Hid (K u ≤ K v) := Lib.hid (by have := LT.2; omega)
        clear LT
        go_wp2_with fail
        go_quiet ((go_at_call 33; refine (CO.out _ (HG.out.trans (Chg.drewN g _ _))).mono ?_; rintro e w' ⟨rfl, n, rfl⟩; exact ⟨rfl, _, drewN_drewN _ _ _⟩))
        go_wp2_with fail
        go_roundw
        case rel =>
          refine ⟨q + 1, j, by omega, by omega, by omega, by go_num, rfl, HA.out.drewN _, fun k h1 h2 => ?_, HK2.out, HG.out.trans (Chg.drewN g _ _)⟩
          have e1 := HS.out.key (i := k) (j := q) h1 (by omega) (by omega)
          rw [HU.out] at e1; rw [HV.out]
          exact Nat.le_trans e1 HKle.out
        case measure => simp [intOf] <;> omega
    · have d0 : decide ((i : Int) < (j : Int)) = false := decide_eq_false (by omega)
      have hij' : j = i := by omega
      subst hij'
      obtain ⟨wo, hwo⟩ : ∃ wo : World, wo = wr := ⟨_, rfl⟩
      subst hwo
      go_wp2_with fail
      go_loopw [17] (fun x wr => ∃ k : Nat, j ≤ k ∧ k ≤ m ∧ x = .int .i64 k ∧ Arr wr g N (rot f k m b) ∧ Chg g wo wr) (fun x _ => (intOf x).toNat)
      case atStart => exact ⟨m, by omega, by omega, rfl, HA.out.congr (rot_nothing' f m b).symm, Chg.refl _ _⟩
      case round =>
        obtain ⟨k, hk1, hk2, rfl, hA2, hC2⟩ := hrel
        have HA2 := Lib.hid hA2
        have HC2 := Lib.hid hC2
        clear hA2 hC2
        by_cases hkj : j < k
        · obtain ⟨y, hy⟩ : ∃ y, k = y + 1 := ⟨k - 1, by omega⟩
          subst hy
          have d3 : decide ((j : Int) < (y : Int) + 1) = true := decide_eq_true (by omega)
          have d3' : decide (((y + 1 : Nat) : Int) > (j : Int)) = true := decide_eq_true (by omega)
          have g3 : (j : Int) < (y : Int) + 1 := by omega
          have cx := HA2.out.cell (y + 1) (by omega)
          have cy := HA2.out.cell y (by omega)
          have fx := HA2.out.fro (y + 1) (by omega)
          have fy := HA2.out.fro y (by omega)
          have hs := HA2.out.swap (i := y + 1) (j := y) (by omega) (by omega) (by omega)
          have hr := rot_down f (y + 1) m (by omega) hk2
          rw [← HM.out, Nat.add_sub_cancel] at hr
          rw [hr] at hs
          obtain ⟨u, hu⟩ : ∃ u, rot f (y + 1) m b (y + 1) = u := ⟨_, rfl⟩
          obtain ⟨v, hv⟩ : ∃ v, rot f (y + 1) m b y = v := ⟨_, rfl⟩
          rw [hu] at cx hs
          rw [hv] at cy hs
          have HSw := Lib.hid hs
          clear hu hv hs hr
          have n2 : ((y : Int) + 1).toNat = y + 1 := by omega
          have l1 : (0 : Int) ≤ (y : Int) + 1 := by omega
          have l2 : (y : Int) + 1 < (N : Int) := by omega
          have l3 : (y : Int) < (N : Int) := by omega
          have ne : y ≠ y + 1 := by omega
          have ne' : y + 1 ≠ y := by omega
          go_wp2_with fail
          go_region
          go_wp2
          go_roundw
          case rel => exact ⟨y, by omega, by omega, by go_num, HSw.out.drewN _, ((HC2.out.trans (Chg.drewN g _ _)).trans (Chg.set g _ _ _)).trans (Chg.set g _ _ _)⟩
          case measure => simp [intOf] <;> omega
        · have d3 : decide ((j : Int) < (k : Int)) = false := decide_eq_false (by omega)
          have hkj' : k = j := by omega
          subst hkj'
          go_wp2_with fail
          refine bodyPost_ret (results_none rfl _ _ _) rfl ?_
          refine ⟨rfl, rot f k m b, HA2.out, (rot_mv f (by omega) (by omega)).mono (by omega) (by omega), ?_, HG.out.trans HC2.out⟩
          rw [HM.out]
          exact insert_sorted HS.out (fun x h1 h2 => HW.out x m h1 h2 (by omega) (by omega)) (by omega) (by omega) (fun x h1 h2 => HK1.out x (by omega) h2) (fun x h1 h2 => HK2.out x (by omega) h2)
end Go.Proofs.Ytmkbbfcecolobaa
