/-
  Sum by definition, mean, shares: code and document.
-/
import Derived.Test.YtfiimmbpfdpjfaaFigK
import Derived.Test.YtfiimmbpfdpjfaaFigF
import Derived.BigQuiet
import Derived.Deep.QuietTactic
namespace Go.Proofs.Ytfiimmbpfdpjfaa
open Go.RowKit
set_option linter.unusedSimpArgs false

theorem onN_sumK_zero : onN (sumN ([].map nz)) = 0 := rfl

set_option maxHeartbeats 2000000 in
theorem refSum_c (A : Option Addr) (n c : Nat) (xs : List Nat) (w : World) (h : Fs w A n xs) :
    Calls Try.prog 32 #[.slice A n c] w fun e w' => e = .returned (.float .f64 (sumV xs)) ∧ Drw w w' := by
  have hs := h.small
  have HL := Lib.hid h.len
  obtain ⟨ad, hc⟩ := h.get
  have HC := Lib.hid hc
  clear h hc
  go_enter Try.func32, Try.ntmps32
  go_wp2
  go_loopw [3, 4] (fun s i wr => ∃ (k u : Nat), k ≤ n ∧ i = .int .i64 k ∧ s = .float .f64 u ∧ nz u = sumK (xs.map nz) k ∧ Drw w wr) (fun _ i _ => n - (intOf i).toNat)
  case atStart => exact ⟨0, 0, by omega, rfl, rfl, rfl, Drw.refl _⟩
  case round =>
    obtain ⟨k, u, hk, rfl, rfl, hu, ⟨d, rfl⟩⟩ := hrel
    have HU := Lib.hid hu
    clear hu
    by_cases hlt : k < n
    · obtain ⟨hA, hcell⟩ := HC.out (by omega)
      have cx := hcell k hlt
      have c0 := hcell 0 (by omega)
      have z0 : ad.add 0 = ad := by unfold Addr.add; rw [if_pos rfl]
      rw [z0] at c0
      subst hA
      obtain ⟨x, hx⟩ : ∃ x, xs.getD k 0 = x := ⟨_, rfl⟩
      rw [hx] at cx
      have HX := Lib.hid hx
      obtain ⟨x0, hx0⟩ : ∃ x, xs.getD 0 0 = x := ⟨_, rfl⟩
      rw [hx0] at c0
      have HX0 := Lib.hid hx0
      clear hcell hx hx0 z0
      by_cases hk0 : k = 0
      · subst hk0
        have hlt' : (0 : Int) < (n : Int) := by omega
        go_wp2
        go_roundw
        case rel =>
          refine ⟨1, x0, by omega, by go_num, rfl, ?_, ⟨_, rfl⟩⟩
          rw [sumK_one, getD_nz _ _ (by rw [HL.out]; omega), HX0.out]
        case measure => simp [intOf]; omega
      · have hke : ((k : Int) == 0) = false := beq_eq_false_iff_ne.2 (by omega)
        go_wp2
        go_roundw
        case rel =>
          refine ⟨k + 1, _, by omega, by go_num, rfl, ?_, ⟨_, rfl⟩⟩
          rw [nz_add, sumK_more _ _ (by omega), getD_nz _ _ (by rw [HL.out]; omega), HX.out, HU.out]
        case measure => simp [intOf]; omega
    · have hkn : k = n := by omega
      have HV : Hid (sumV xs = onev u) := Lib.hid (by
        rw [onev_nz, HU.out]
        unfold sumV sumN
        rw [List.length_map, HL.out, hkn])
      subst hkn
      go_wp2_with (go_at_call 35; refine (refOne_c _ _).mono ?_; rintro e w' ⟨rfl, rfl⟩)
      go_ret
      exact ⟨by rw [HV.out]; rfl, ⟨_, rfl⟩⟩

/-- a number by another, or none -/
def byV (a b : Nat) : Nat := onN (opN .quo (nz a) (nz b))
theorem one_quo (a b : Nat) (w : World) : onev (fa .quo a b w) = byV a b := by
  rw [onev_nz, nz_quo]; rfl
theorem byV_lt (a b : Nat) : byV a b < 18446744073709551616 := onN_lt fun _ h => opN_lt h
def meanV (xs : List Nat) : Nat := byV (sumV xs) (floatOfInt .f64 (xs.length : Int))
theorem mean_c (A : Option Addr) (n c : Nat) (xs : List Nat) (w : World) (h : Fs w A n xs) (hc : n ≤ c) :
    Calls Try.prog 28 #[.slice A n c] w fun e w' => e = .returned (.float .f64 (meanV xs)) ∧ Drw w w' := by
  have C := Lib.hid (sum_c A n c xs w h hc)
  have hs := h.small
  have HL := Lib.hid h.len
  clear h hc
  go_enter Try.func28, Try.ntmps28
  go_wp2_with (first | (go_at_call 27; refine C.out.mono ?_; rintro e w' ⟨rfl, ⟨d, rfl⟩⟩) | (go_at_call 18; refine (one_c _ _).mono ?_; rintro e w' ⟨rfl, rfl⟩))
  go_ret
  rw [one_quo]
  unfold meanV
  rw [HL.out]
  exact ⟨rfl, ⟨_, rfl⟩⟩
theorem none_c (w : World) : Calls Try.prog 50 #[] w fun e w' => e = .returned (.float .f64 theNan) ∧ w = w' := by
  have hb := frombits_run
  go_enter Try.func50, Try.ntmps50
  go_wp2
  go_ret
  exact ⟨rfl, rfl⟩
theorem refMean_c (A : Option Addr) (n c : Nat) (xs : List Nat) (w : World) (h : Fs w A n xs) :
    Calls Try.prog 33 #[.slice A n c] w fun e w' => e = .returned (.float .f64 (meanV xs)) ∧ Drw w w' := by
  have C := Lib.hid (refSum_c A n c xs w h)
  have hs := h.small
  have HL := Lib.hid h.len
  by_cases h0 : n = 0
  · have hx : xs = [] := List.eq_nil_of_length_eq_zero (by rw [h.len, h0])
    have HV : Hid (meanV xs = theNan) := Lib.hid (by rw [hx]; decide)
    subst h0
    clear h hx C
    go_enter Try.func33, Try.ntmps33
    go_wp2_with (go_at_call 50; refine (none_c _).mono ?_; rintro e w' ⟨rfl, rfl⟩)
    go_ret
    exact ⟨by rw [HV.out]; rfl, Drw.refl _⟩
  · have e0 : ((n : Int) == 0) = false := beq_eq_false_iff_ne.2 (by omega)
    clear h h0
    go_enter Try.func33, Try.ntmps33
    go_wp2_with (first | (go_at_call 32; refine C.out.mono ?_; rintro e w' ⟨rfl, ⟨d, rfl⟩⟩) | (go_at_call 35; refine (refOne_c _ _).mono ?_; rintro e w' ⟨rfl, rfl⟩))
    go_ret
    rw [one_quo]
    unfold meanV
    rw [HL.out]
    exact ⟨rfl, ⟨_, rfl⟩⟩

def shareL (xs : List Nat) : List Nat := xs.map fun x => byV x (sumV xs)
theorem shareL_len (xs : List Nat) : (shareL xs).length = xs.length := by simp [shareL]
theorem shareL_get (xs : List Nat) (k : Nat) (h : k < xs.length) : (shareL xs).getD k 0 = byV (xs.getD k 0) (sumV xs) := by
  simp [shareL, List.getD_eq_getElem?_getD, List.getElem?_eq_getElem h]
theorem shareL_bits (xs : List Nat) : ∀ x ∈ shareL xs, x < 18446744073709551616 := by
  intro x hx
  obtain ⟨y, _, rfl⟩ := List.mem_map.1 hx
  exact byV_lt _ _

/-- the first k of a list that is being filled -/
def filled (ys : List Value) (z : Value) (n k : Nat) : List Value := ys.take k ++ List.replicate (n - k) z
theorem filled_zero (ys : List Value) (z : Value) (n : Nat) : filled ys z n 0 = List.replicate n z := by simp [filled]
theorem filled_all (ys : List Value) (z : Value) (n : Nat) (h : ys.length = n) : filled ys z n n = ys := by simp [filled, List.take_of_length_le (Nat.le_of_eq h)]
theorem filled_set (ys : List Value) (z v : Value) (n k : Nat) (h : ys.length = n) (hk : k < n) (hv : ys[k]? = some v) : (filled ys z n k).set k v = filled ys z n (k + 1) := by
  have hk' : k < ys.length := by omega
  unfold filled
  rw [List.set_append_right _ _ (by rw [List.length_take]; omega), List.length_take, show k - min k ys.length = 0 by omega, List.take_add_one, hv]
  obtain ⟨m, hm⟩ : ∃ m, n - k = m + 1 := ⟨n - k - 1, by omega⟩
  rw [hm, show n - (k + 1) = m by omega]
  simp [List.replicate_succ]
theorem filled_at (ys : List Value) (z : Value) (n k : Nat) (h : ys.length = n) (hk : k < n) : (filled ys z n k)[k]? = some z := by
  unfold filled
  rw [List.getElem?_append_right (by rw [List.length_take]; omega), List.length_take, show k - min k ys.length = 0 by omega]
  rw [List.getElem?_replicate, if_pos (by omega)]

theorem below_drewN {B : Nat} {a w : World} (h : Below B a w) (n : Nat) : Below B a (w.drewN n) := ⟨h.os, h.tape, h.output, h.size, h.block⟩
end Go.Proofs.Ytfiimmbpfdpjfaa
