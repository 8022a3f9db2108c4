/-
  A number's text.
-/
import Derived.Test.YtkoepaagdaconaaRgD
namespace Go.Proofs.Ytkoepaagdaconaa
open Go.RowKit
set_option linter.unusedSimpArgs false

def digits : ByteArray := ⟨#[48, 49, 50, 51, 52, 53, 54, 55, 56, 57]⟩
def digit (d : Nat) : ByteArray := digits.extract d (d + 1)
def textK : Nat → Nat → ByteArray → ByteArray
  | 0, _, t => t
  | r + 1, z, t => textK r (z / 10) (t ++ digit (z % 10))
def textV (n : Nat) : ByteArray := textK 4 n ⟨#[]⟩
theorem run_digit (d : Nat) (hd : d < 10) (w : World) : (Instr.slice 9 (.string ⟨#[48, 49, 50, 51, 52, 53, 54, 55, 56, 57]⟩) (some (.int .i64 (d : Int))) (some (.int .i64 ((d : Int) + 1))) none).run Try.prog w = .ok (.string (digit d)) w := by
  have h := run_slice_string (P := Try.prog) w 9 digits .i64 .i64 d ((d : Int) + 1) Try.underlying9 (by omega) (by omega) (by show (d : Int) + 1 ≤ ((10 : Nat) : Int); omega)
  rw [Int.toNat_natCast, show ((d : Int) + 1).toNat = d + 1 by omega] at h
  exact h

set_option maxHeartbeats 400000 in
set_option maxRecDepth 100000 in
theorem text_c (n : Nat) (hn : n ≤ 5000) (w : World) : Calls Try.prog 10 #[.int .i64 n] w fun e w' => e = .returned (.string (textV n)) ∧ w = w' := by
  go_enter Try.func10, Try.ntmps10
  go_wp2_with fail
  go_loop [0, 3, 4] (fun m s i => ∃ (k z : Nat) (t : ByteArray), k ≤ 4 ∧ z ≤ 5000 ∧ i = .int .i64 k ∧ m = .int .i64 z ∧ s = .string t ∧ t.size ≤ k ∧ Hid (textK (4 - k) z t = textV n)) (fun _ _ i => 4 - (intOf i).toNat)
  case atStart => exact ⟨0, n, _, by omega, hn, rfl, rfl, rfl, Nat.le_refl _, Lib.hid rfl⟩
  case round =>
    obtain ⟨k, z, t, hk, hz, rfl, rfl, rfl, hts, HT⟩ := hrel
    by_cases hlt : k < 4
    · obtain ⟨d, hd⟩ : ∃ d, z % 10 = d := ⟨_, rfl⟩
      obtain ⟨q, hq⟩ : ∃ q, z / 10 = q := ⟨_, rfl⟩
      have hd2 : d < 10 := by omega
      have hq2 : q ≤ 5000 := by omega
      have e1 : (z : Int) % 10 = (d : Int) := by omega
      have e2 : (z : Int) / 10 = (q : Int) := by omega
      have hs := run_digit d hd2
      obtain ⟨D, hD⟩ : ∃ D, digit d = D := ⟨_, rfl⟩
      have hds : D.size ≤ 1 := by rw [← hD]; unfold digit; rw [ByteArray.size_extract]; omega
      rw [hD] at hs
      have HN : Hid (textK (4 - (k + 1)) q (t ++ D) = textV n) := Lib.hid (by
        have h := HT.out
        rw [show 4 - k = (4 - (k + 1)) + 1 by omega] at h
        unfold textK at h
        rw [hd, hq, hD] at h
        exact h)
      clear hd hq hD
      go_wp2
      go_round
      case rel => exact ⟨k + 1, q, _, by omega, hq2, by go_num, rfl, rfl, by rw [ByteArray.size_append]; omega, HN⟩
      case measure => simp [intOf]; omega
    · have hk4 : k = 4 := by omega
      have HT4 : Hid (t = textV n) := Lib.hid (by have h := HT.out; rw [hk4] at h; exact h)
      clear HT hk4
      go_wp2
      go_ret
      exact ⟨by rw [← HT4.out]; rfl, rfl⟩
end Go.Proofs.Ytkoepaagdaconaa
