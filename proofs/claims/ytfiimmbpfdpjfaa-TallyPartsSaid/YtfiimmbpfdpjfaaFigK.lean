/-
  Sum of a list of floats, and of their squares: figure's total, by each of the two functions that it is handed.
-/
import Derived.Test.YtfiimmbpfdpjfaaNum
import Derived.Test.YtfiimmbpfdpjfaaFigH
namespace Go.Proofs.Ytfiimmbpfdpjfaa
open Go.RowKit
set_option linter.unusedSimpArgs false

theorem addr_add (a : Addr) (i j : Nat) : (a.add i).add j = a.add (i + j) := by
  unfold Addr.add
  by_cases h1 : i = 0 <;> by_cases h2 : j = 0 <;> simp [h1, h2, Nat.add_assoc]
/-- 'xs[1:]' of floats -/
theorem fs_cut (ad : Addr) (n c : Nat) (hn : 1 ≤ n) (hc : n ≤ c) : ∃ A' : Option Addr, (∀ W : World, (Instr.slice 61 (.slice (some ad) n c) (some (.int .i64 1)) none none).run Try.prog W = .ok (.slice A' (n - 1) (c - 1)) W) ∧
    (1 < n → A' = some (ad.add 1)) := by
  refine ⟨if c = 1 then some ad else (some ad).map (·.add 1), fun W => ?_, fun h => by rw [if_neg (by omega)]; rfl⟩
  obtain ⟨i0, hi, hz⟩ := Option.map_eq_some_iff.1 infoF
  simp only [Prod.mk.injEq] at hz
  obtain ⟨_, hz1, _⟩ := hz
  have hel : Try.prog.elem 61 = 26 := by kernel_rfl
  have hu : Try.prog.underlying 61 = some (.slice (Try.prog.elem 61)) := by rw [hel]; exact Try.underlying61
  rw [run_slice_l W 61 (some ad) n c hu .i64 1 (by omega) (by omega), hel]
  simp [sizeOf, typeInfo, hi, hz1, sliced, Result.andThen]

theorem gr_drw {w w' : World} (h : Drw w w') : ∃ d, w' = w.drewN d := h

theorem getD_tsum (xs : List Nat) (k : Nat) (h : k < xs.length) : (xs.map nz).getD k none = nz (xs.getD k 0) := getD_nz xs k h
theorem same_f (x : Nat) (w : World) : Calls Try.prog 46 #[.float .f64 x] w fun e w' => e = .returned (.float .f64 x) ∧ w = w' := by
  go_enter Try.func46, Try.ntmps46
  go_wp2
  go_ret
  exact ⟨rfl, rfl⟩

set_option maxHeartbeats 2000000 in
theorem tsum_c (A : Option Addr) (n c : Nat) (xs : List Nat) (w : World) (h : Fs w A n xs) (hc : n ≤ c) :
    Calls Try.prog 45 #[.slice A n c, .func (Fn.func 46) #[] #[]] w fun e w' => e = .returned (.float .f64 (onN (sumN (xs.map nz)))) ∧ Drw w w' := by
  have hs := h.small
  have HL := Lib.hid h.len
  by_cases h0 : n = 0
  · have hx : xs = [] := List.eq_nil_of_length_eq_zero (by rw [h.len, h0])
    have HV : Hid (onN (sumN (xs.map nz)) = 0) := Lib.hid (by rw [hx]; rfl)
    subst h0
    clear h hx
    go_enter Try.func45, Try.ntmps45
    go_wp2
    go_ret
    exact ⟨by rw [HV.out]; rfl, Drw.refl _⟩
  · obtain ⟨ad, hA, hcell⟩ := h.at_ (by omega)
    subst hA
    have e0 : ((n : Int) == 0) = false := beq_eq_false_iff_ne.2 (by omega)
    obtain ⟨A', hcut, hA'⟩ := fs_cut ad n c (by omega) hc
    have c0 := hcell 0 (by omega)
    have z0 : ad.add 0 = ad := by unfold Addr.add; rw [if_pos rfl]
    rw [z0] at c0
    obtain ⟨x0, hx0⟩ : ∃ x0, xs.getD 0 0 = x0 := ⟨_, rfl⟩
    rw [hx0] at c0
    have HX0 := Lib.hid hx0
    have HC := Lib.hid hcell
    have HA := Lib.hid hA'
    have hn1 : 1 ≤ n := by omega
    have hcast : ((n - 1 : Nat) : Int) ≤ 140737488355328 := by omega
    clear h hcell hA' hx0 z0 h0
    go_enter Try.func45, Try.ntmps45
    go_wp2_with (go_at_call 46; refine (same_f _ _).mono ?_; rintro e w' ⟨rfl, rfl⟩)
    go_loopw [5, 19] (fun s i wr => ∃ (k u : Nat), k ≤ n - 1 ∧ i = .int .i64 k ∧ s = .float .f64 u ∧ nz u = sumK (xs.map nz) (k + 1) ∧ Drw w wr) (fun _ i _ => (n - 1) - (intOf i).toNat)
    case atStart =>
      refine ⟨0, _, by omega, rfl, rfl, ?_, by first | exact Drw.refl _ | exact ⟨_, rfl⟩⟩
      rw [sumK_one, getD_tsum _ _ (by rw [HL.out]; omega), HX0.out]
      try rfl
    case round =>
      obtain ⟨k, u, hk, rfl, rfl, hu, ⟨d, rfl⟩⟩ := hrel
      have HU := Lib.hid hu
      clear hu
      by_cases hlt : k < n - 1
      · have hA2 := HA.out (by omega)
        have cx : w.cell? ((ad.add 1).add k) = some (.float .f64 (xs.getD (k + 1) 0)) := by
          rw [addr_add, Nat.add_comm 1 k]
          exact HC.out (k + 1) (by omega)
        obtain ⟨a2, ha2⟩ : ∃ a2, ad.add 1 = a2 := ⟨_, rfl⟩
        rw [ha2] at hA2 cx
        subst hA2
        clear ha2
        obtain ⟨x, hx⟩ : ∃ x, xs.getD (k + 1) 0 = x := ⟨_, rfl⟩
        rw [hx] at cx
        have HX := Lib.hid hx
        have hkn : (k : Int) < ((n - 1 : Nat) : Int) := by omega
        clear hx
        go_wp2_with (go_at_call 46; refine (same_f _ _).mono ?_; rintro e w' ⟨rfl, rfl⟩)
        go_wp2
        go_roundw
        case rel =>
          refine ⟨k + 1, _, by omega, by go_num, rfl, ?_, ⟨_, rfl⟩⟩
          rw [nz_add, sumK_more _ _ (by omega), getD_tsum _ _ (by rw [HL.out]; omega), HX.out, HU.out]; try rfl
          try rfl
        case measure => simp [intOf]; omega
      · have hkn : k + 1 = n := by omega
        have HV : Hid (onN (sumN (xs.map nz)) = onev u) := Lib.hid (by
          rw [onev_nz, HU.out]
          unfold sumN
          rw [List.length_map, HL.out, hkn])
        clear hkn
        go_wp2_with (go_at_call 18; refine (one_c _ _).mono ?_; rintro e w' ⟨rfl, rfl⟩)
        go_ret
        exact ⟨by rw [HV.out]; rfl, ⟨_, rfl⟩⟩

/-- a number by itself -/
def sqN (x : Nat) : Option Nat := opN .mul (nz x) (nz x)
theorem getD_tsq (xs : List Nat) (k : Nat) (h : k < xs.length) : (xs.map sqN).getD k none = sqN (xs.getD k 0) := by
  simp [List.getD_eq_getElem?_getD, List.getElem?_eq_getElem h]
theorem sq_f (x : Nat) (w : World) : Calls Try.prog 47 #[.float .f64 x] w fun e w' => ∃ r, e = .returned (.float .f64 r) ∧ nz r = sqN x ∧ Drw w w' := by
  go_enter Try.func47, Try.ntmps47
  go_wp2
  go_ret
  exact ⟨_, rfl, nz_mul x x w, ⟨_, rfl⟩⟩

set_option maxHeartbeats 2000000 in
theorem tsq_c (A : Option Addr) (n c : Nat) (xs : List Nat) (w : World) (h : Fs w A n xs) (hc : n ≤ c) :
    Calls Try.prog 45 #[.slice A n c, .func (Fn.func 47) #[] #[]] w fun e w' => e = .returned (.float .f64 (onN (sumN (xs.map sqN)))) ∧ Drw w w' := by
  have hs := h.small
  have HL := Lib.hid h.len
  by_cases h0 : n = 0
  · have hx : xs = [] := List.eq_nil_of_length_eq_zero (by rw [h.len, h0])
    have HV : Hid (onN (sumN (xs.map sqN)) = 0) := Lib.hid (by rw [hx]; rfl)
    subst h0
    clear h hx
    go_enter Try.func45, Try.ntmps45
    go_wp2
    go_ret
    exact ⟨by rw [HV.out]; rfl, Drw.refl _⟩
  · obtain ⟨ad, hA, hcell⟩ := h.at_ (by omega)
    subst hA
    have e0 : ((n : Int) == 0) = false := beq_eq_false_iff_ne.2 (by omega)
    obtain ⟨A', hcut, hA'⟩ := fs_cut ad n c (by omega) hc
    have c0 := hcell 0 (by omega)
    have z0 : ad.add 0 = ad := by unfold Addr.add; rw [if_pos rfl]
    rw [z0] at c0
    obtain ⟨x0, hx0⟩ : ∃ x0, xs.getD 0 0 = x0 := ⟨_, rfl⟩
    rw [hx0] at c0
    have HX0 := Lib.hid hx0
    have HC := Lib.hid hcell
    have HA := Lib.hid hA'
    have hn1 : 1 ≤ n := by omega
    have hcast : ((n - 1 : Nat) : Int) ≤ 140737488355328 := by omega
    clear h hcell hA' hx0 z0 h0
    go_enter Try.func45, Try.ntmps45
    go_wp2_with (go_at_call 47; refine (sq_f _ _).mono ?_; rintro e w' ⟨sq, rfl, hsq, ⟨dq, rfl⟩⟩)
    go_loopw [5, 19] (fun s i wr => ∃ (k u : Nat), k ≤ n - 1 ∧ i = .int .i64 k ∧ s = .float .f64 u ∧ nz u = sumK (xs.map sqN) (k + 1) ∧ Drw w wr) (fun _ i _ => (n - 1) - (intOf i).toNat)
    case atStart =>
      refine ⟨0, _, by omega, rfl, rfl, ?_, by first | exact Drw.refl _ | exact ⟨_, rfl⟩⟩
      rw [sumK_one, getD_tsq _ _ (by rw [HL.out]; omega), HX0.out]
      (first | exact hsq | rw [hsq])
    case round =>
      obtain ⟨k, u, hk, rfl, rfl, hu, ⟨d, rfl⟩⟩ := hrel
      have HU := Lib.hid hu
      clear hu
      by_cases hlt : k < n - 1
      · have hA2 := HA.out (by omega)
        have cx : w.cell? ((ad.add 1).add k) = some (.float .f64 (xs.getD (k + 1) 0)) := by
          rw [addr_add, Nat.add_comm 1 k]
          exact HC.out (k + 1) (by omega)
        obtain ⟨a2, ha2⟩ : ∃ a2, ad.add 1 = a2 := ⟨_, rfl⟩
        rw [ha2] at hA2 cx
        subst hA2
        clear ha2
        obtain ⟨x, hx⟩ : ∃ x, xs.getD (k + 1) 0 = x := ⟨_, rfl⟩
        rw [hx] at cx
        have HX := Lib.hid hx
        have hkn : (k : Int) < ((n - 1 : Nat) : Int) := by omega
        clear hx
        go_wp2_with (go_at_call 47; refine (sq_f _ _).mono ?_; rintro e w' ⟨sq, rfl, hsq, ⟨dq, rfl⟩⟩)
        go_wp2
        go_roundw
        case rel =>
          refine ⟨k + 1, _, by omega, by go_num, rfl, ?_, ⟨_, rfl⟩⟩
          rw [nz_add, sumK_more _ _ (by omega), getD_tsq _ _ (by rw [HL.out]; omega), HX.out, HU.out]; try rfl
          (first | exact hsq | rw [hsq])
        case measure => simp [intOf]; omega
      · have hkn : k + 1 = n := by omega
        have HV : Hid (onN (sumN (xs.map sqN)) = onev u) := Lib.hid (by
          rw [onev_nz, HU.out]
          unfold sumN
          rw [List.length_map, HL.out, hkn])
        clear hkn
        go_wp2_with (go_at_call 18; refine (one_c _ _).mono ?_; rintro e w' ⟨rfl, rfl⟩)
        go_ret
        exact ⟨by rw [HV.out]; rfl, ⟨_, rfl⟩⟩

theorem sum_c (A : Option Addr) (n c : Nat) (xs : List Nat) (w : World) (h : Fs w A n xs) (hc : n ≤ c) :
    Calls Try.prog 27 #[.slice A n c] w fun e w' => e = .returned (.float .f64 (sumV xs)) ∧ Drw w w' := by
  have C := Lib.hid (tsum_c A n c xs w h hc)
  clear h hc
  go_enter Try.func27, Try.ntmps27
  go_wp2_with (go_at_call 45; refine C.out.mono ?_; rintro e w' ⟨rfl, ⟨d, rfl⟩⟩)
  go_ret
  exact ⟨rfl, ⟨_, rfl⟩⟩
end Go.Proofs.Ytfiimmbpfdpjfaa
