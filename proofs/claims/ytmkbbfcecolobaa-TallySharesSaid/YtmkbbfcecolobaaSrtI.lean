/-
  The stable sort of a list of places.
-/
import Derived.Test.YtmkbbfcecolobaaSrtH
namespace Go.Proofs.Ytmkbbfcecolobaa
open Go.RowKit Srt
set_option linter.unusedSimpArgs false

theorem next_i {g N c bx : Nat} {K : Nat → Nat} {o : Nat → Nat → Int} {t A B : Nat} {f : Nat → Nat} {w : World} (h : Arr w g N f) (hc : Cmp g w bx N K o) (hA : t * 20 = A) (hr : Runs K f (one 20 N A) N) (h1 : A ≤ B) (h2 : B ≤ N) (h3 : B ≤ A + 20) :
    Calls Try.prog 56 #[.slice (some ⟨g, 0, none⟩) N c, .int .i64 A, .int .i64 B, cmpV bx] w fun e w' => e = .returned (.tuple #[]) ∧ ∃ f', Arr w' g N f' ∧ Runs K f' (one 20 N B) N ∧ Chg g w w' := by
  refine (ins_c g N c A B bx f K o w h hc h1 h2 (fun k hk => hr.lt hk) (fun i j k1 k2 k3 => ?_)).mono ?_
  · rw [one_out hr k1 (by omega), one_out hr (by omega) (by omega)]; exact k2
  · rintro e w' ⟨rfl, f', k1, k2, k3, k4⟩
    refine ⟨rfl, f', k1, ?_, k4⟩
    subst hA
    exact one_next hr h2 h3 h1 k2 k3
theorem next_m {g N c bx : Nat} {K : Nat → Nat} {o : Nat → Nat → Int} {t z A B : Nat} {f : Nat → Nat} {w : World} (h : Arr w g N f) (hc : Cmp g w bx N K o) (hz : 0 < z) (hA : 2 * t * z = A) (hr : Runs K f (two z N (2 * t)) N) (h1 : A + z < B) (h2 : B ≤ N) (h3 : B = A + z + z ∨ (B = N ∧ B ≤ A + z + z)) :
    Calls Try.prog 57 #[.slice (some ⟨g, 0, none⟩) N c, .int .i64 A, .int .i64 (A + z : Nat), .int .i64 B, cmpV bx] w fun e w' => e = .returned (.tuple #[]) ∧ ∃ f', Arr w' g N f' ∧ Runs K f' (two z N (2 * (t + 1))) N ∧ Chg g w w' := by
  subst hA
  obtain ⟨s1, s2, s3⟩ := two_ready hz hr (by omega) h2 (by omega)
  refine (sym_c g N c bx K o (N + 1) (2 * t * z) (2 * t * z + z) B f w (by omega) h hc (by omega) h1 h2 (fun k hk => hr.lt hk) s1 s2 s3).mono ?_
  rintro e w' ⟨rfl, f', k1, k2, k3, k4⟩
  exact ⟨rfl, f', k1, two_next hz hr h2 h3 (by omega) k2 k3, k4⟩
theorem twice {t z A : Nat} (h : 2 * t * z = A) : 2 * (t + 1) * z = A + z + z := by
  rw [Nat.mul_add, Nat.add_mul, h]; omega
set_option maxRecDepth 100000 in
set_option maxHeartbeats 4000000 in
theorem stable_c (g N c bx : Nat) (K : Nat → Nat) (o : Nat → Nat → Int) (w : World) (h : Arr w g N fun k => k) (hc : Cmp g w bx N K o) :
    Calls Try.prog 49 #[.slice (some ⟨g, 0, none⟩) N c, .int .i64 N, cmpV bx] w fun e w' => e = .returned (.tuple #[]) ∧ ∃ f', Arr w' g N f' ∧ Mv 0 N (fun k => k) f' ∧ Sorted K f' 0 N ∧ Chg g w w' := by
  have hN := h.small
  have H0 := Lib.hid h
  have HC := Lib.hid hc
  clear h hc
  go_enter Try.func49, Try.ntmps49
  go_wp2_with fail
  go_loopw [7, 8] (fun x y wr => ∃ (t A B : Nat) (f : Nat → Nat), Hid (t * 20 = A) ∧ A ≤ N ∧ B = A + 20 ∧ x = .int .i64 A ∧ y = .int .i64 B ∧ Arr wr g N f ∧ Runs K f (one 20 N A) N ∧ Chg g w wr) (fun x _ _ => N - (intOf x).toNat)
  case atStart => exact ⟨0, 0, 20, _, Lib.hid rfl, by omega, rfl, rfl, rfl, H0.out, runs_start K 20 N, Chg.refl _ _⟩
  case round =>
    obtain ⟨t, A, B, f, HA, hAN, hB, rfl, rfl, hR, hU, hC⟩ := hrel
    have HR := Lib.hid hR
    have HU := Lib.hid hU
    have HG := Lib.hid hC
    have hB1 : A + 20 ≤ B := by omega
    have hB2 : B ≤ A + 20 := by omega
    clear hR hU hC hB
    by_cases hb : B ≤ N
    · have d0 : decide ((B : Int) ≤ (N : Int)) = true := decide_eq_true (by omega)
      have C := Lib.hid (next_i (c := c) HR.out (HC.out.next HG.out) HA.out HU.out (show A ≤ B by omega) hb hB2)
      go_wp2_with fail
      refine C.out.mono ?_
      rintro e w1 ⟨rfl, f1, hA1, hU1, hC1⟩
      have HA1 := Lib.hid hA1
      have HU1 := Lib.hid hU1
      have HC1 := Lib.hid hC1
      clear hA1 hU1 hC1
      go_wp2
      go_roundw
      case rel => exact ⟨t + 1, B, B + 20, f1, Lib.hid (by have := HA.out; omega), hb, rfl, rfl, by go_num, HA1.out, HU1.out, HG.out.trans HC1.out⟩
      case measure => simp [intOf] <;> omega
    · have d0 : decide ((B : Int) ≤ (N : Int)) = false := decide_eq_false (by omega)
      have C := Lib.hid (next_i (c := c) HR.out (HC.out.next HG.out) HA.out HU.out hAN (Nat.le_refl N) (by omega))
      go_wp2_with fail
      refine C.out.mono ?_
      rintro e w1 ⟨rfl, f1, hA1, hU1, hC1⟩
      have HA1 := Lib.hid hA1
      have HU1 := Lib.hid (one_two hU1 (Nat.le_refl N))
      have HG1 := Lib.hid (HG.out.trans hC1)
      clear hA1 hU1 hC1 HG HR HU C
      go_wp2_with fail
      go_loopw [6, 7, 8, 9] (fun x _ _ _ wr => ∃ (z : Nat) (f : Nat → Nat), 0 < z ∧ z ≤ 2 * N + 20 ∧ x = .int .i64 z ∧ Arr wr g N f ∧ Runs K f (two z N 0) N ∧ Chg g w wr) (fun x _ _ _ _ => 2 * N + 21 - (intOf x).toNat)
      case atStart => exact ⟨20, f1, by omega, by omega, rfl, HA1.out, HU1.out, HG1.out⟩
      case round => as_aux_lemma =>
        obtain ⟨z, f, hz1, hz2, rfl, hR, hU, hC⟩ := hrel
        have HR := Lib.hid hR
        have HU := Lib.hid hU
        have HG := Lib.hid hC
        clear hR hU hC HA1 HU1 HG1
        by_cases hzN : z < N
        · have d0 : decide ((z : Int) < (N : Int)) = true := decide_eq_true (by omega)
          obtain ⟨wo, hwo⟩ : ∃ wo : World, wo = wr := ⟨_, rfl⟩
          subst hwo
          go_wp2_with fail
          go_loopw [7, 8] (fun x y wr => ∃ (t A B : Nat) (f : Nat → Nat), Hid (2 * t * z = A) ∧ A ≤ N ∧ B = A + z + z ∧ x = .int .i64 A ∧ y = .int .i64 B ∧ Arr wr g N f ∧ Runs K f (two z N (2 * t)) N ∧ Chg g wo wr) (fun x _ _ => N - (intOf x).toNat)
          case atStart => exact ⟨0, 0, 2 * z, f, Lib.hid (by omega), by omega, by omega, rfl, by go_num, HR.out, HU.out, Chg.refl _ _⟩
          case round =>
            obtain ⟨t, A, B, f2, HA2, hAN2, hB2, rfl, rfl, hR2, hU2, hC2⟩ := hrel
            have HR2 := Lib.hid hR2
            have HU2 := Lib.hid hU2
            have HG2 := Lib.hid (HG.out.trans hC2)
            have HG3 := Lib.hid hC2
            have hB3 : A + z + z ≤ B := by omega
            have hB4 : B ≤ A + z + z := by omega
            have HB := Lib.hid hB2
            clear hR2 hU2 hC2 hB2
            have E1 : Hid (((A + z : Nat) : Int) = (A : Int) + (z : Int)) := Lib.hid (by omega)
            by_cases hb2 : B ≤ N
            · have d1 : decide ((B : Int) ≤ (N : Int)) = true := decide_eq_true (by omega)
              have C := Lib.hid (next_m (c := c) HR2.out (HC.out.next HG2.out) hz1 HA2.out HU2.out (show A + z < B by omega) hb2 (.inl HB.out))
              go_wp2_with fail
              rw [← E1.out]
              refine C.out.mono ?_
              rintro e w1 ⟨rfl, f3, hA3, hU3, hC3⟩
              have HA3 := Lib.hid hA3
              have HU3 := Lib.hid hU3
              have HC3 := Lib.hid hC3
              clear hA3 hU3 hC3
              go_wp2
              go_roundw
              case rel => exact ⟨t + 1, B, B + 2 * z, f3, Lib.hid (by rw [twice HA2.out]; omega), hb2, by omega, rfl, by go_num, HA3.out, HU3.out, HG3.out.trans HC3.out⟩
              case measure => simp [intOf] <;> omega
            · have d1 : decide ((B : Int) ≤ (N : Int)) = false := decide_eq_false (by omega)
              by_cases hm : A + z < N
              · have d2 : decide ((A : Int) + (z : Int) < (N : Int)) = true := decide_eq_true (by omega)
                have C := Lib.hid (next_m (c := c) (B := N) HR2.out (HC.out.next HG2.out) hz1 HA2.out HU2.out hm (Nat.le_refl N) (.inr ⟨rfl, by omega⟩))
                go_wp2_with fail
                rw [← E1.out]
                refine C.out.mono ?_
                rintro e w1 ⟨rfl, f3, hA3, hU3, hC3⟩
                have HA3 := Lib.hid hA3
                have HU3 := Lib.hid hU3
                have HC3 := Lib.hid hC3
                clear hA3 hU3 hC3
                go_wp2
                go_roundw
                case rel => exact ⟨2 * z, f3, by omega, by omega, by go_num, HA3.out, two_all hz1 HU3.out (by rw [twice HA2.out]; omega), HG2.out.trans HC3.out⟩
                case measure => simp [intOf] <;> omega
              · have d2 : decide ((A : Int) + (z : Int) < (N : Int)) = false := decide_eq_false (by omega)
                go_wp2_with fail
                go_roundw
                case rel => exact ⟨2 * z, f2, by omega, by omega, by go_num, HR2.out, two_rest hz1 HU2.out (by have := HA2.out; omega), HG2.out⟩
                case measure => simp [intOf] <;> omega
        · have d0 : decide ((z : Int) < (N : Int)) = false := decide_eq_false (by omega)
          go_wp2_with fail
          go_end0
          exact ⟨rfl, f, HR.out, HU.out.mv, two_done HU.out (by omega), HG.out⟩
theorem sortStable_c (g N c bx : Nat) (K : Nat → Nat) (o : Nat → Nat → Int) (w : World) (h : Arr w g N fun k => k) (hc : Cmp g w bx N K o) :
    Calls Try.prog 32 #[.slice (some ⟨g, 0, none⟩) N c, cmpV bx] w fun e w' => e = .returned (.tuple #[]) ∧ ∃ f', Arr w' g N f' ∧ Mv 0 N (fun k => k) f' ∧ Sorted K f' 0 N ∧ Chg g w w' := by
  have hN := h.small
  have C := Lib.hid (stable_c g N c bx K o w h hc)
  clear h hc
  go_enter Try.func32, Try.ntmps32
  go_wp2_with fail
  refine C.out.mono ?_
  rintro e w1 ⟨rfl, f3, hA3, hU3, hS3, hC3⟩
  have HA3 := Lib.hid hA3
  have HU3 := Lib.hid hU3
  have HS3 := Lib.hid hS3
  have HC3 := Lib.hid hC3
  clear hA3 hU3 hC3 hS3
  go_wp2
  go_end0
  exact ⟨rfl, f3, HA3.out, HU3.out, HS3.out, HC3.out⟩
end Go.Proofs.Ytmkbbfcecolobaa
