/-
  The document's Read.
-/
import Derived.Test.YtplejggfeehbcaaFigI
namespace Go.Proofs.Ytplejggfeehbcaa
open Go.RowKit
set_option linter.unusedSimpArgs false

theorem hv_cases (c : UInt8) : (48 ≤ c.toNat ∧ c.toNat ≤ 57 ∧ hv c = some (c.toNat - 48)) ∨ (97 ≤ c.toNat ∧ c.toNat ≤ 102 ∧ hv c = some (c.toNat - 87)) ∨
    (c.toNat < 48 ∧ hv c = none) ∨ (58 ≤ c.toNat ∧ c.toNat ≤ 96 ∧ hv c = none) ∨ (103 ≤ c.toNat ∧ hv c = none) := by
  unfold hv
  by_cases h1 : 48 ≤ c.toNat ∧ c.toNat ≤ 57
  · rw [if_pos h1]; exact .inl ⟨h1.1, h1.2, rfl⟩
  · rw [if_neg h1]
    by_cases h2 : 97 ≤ c.toNat ∧ c.toNat ≤ 102
    · rw [if_pos h2]; exact .inr (.inl ⟨h2.1, h2.2, rfl⟩)
    · rw [if_neg h2]
      by_cases h3 : c.toNat < 48
      · exact .inr (.inr (.inl ⟨h3, rfl⟩))
      · by_cases h4 : c.toNat ≤ 96
        · exact .inr (.inr (.inr (.inl ⟨by omega, h4, rfl⟩)))
        · exact .inr (.inr (.inr (.inr ⟨by omega, rfl⟩)))

set_option maxHeartbeats 2000000 in
theorem refRead_c (s : ByteArray) (w : World) :
    Calls Try.prog 43 #[.string s] w fun e w' => e = .returned (.tuple #[.float .f64 (readV s.data.toList).1, .bool (readV s.data.toList).2]) ∧ w = w' := by
  by_cases h16 : s.data.toList.length = 16
  · have hsz : s.size = 16 := by rw [← h16, Array.length_toList]; rfl
    have e0 : ((s.size : Int) != 16) = false := by rw [bne_eq_false_iff_eq]; omega
    have HL := Lib.hid h16
    have hz1 : (s.size : Int) ≤ 16 := by omega
    have hz2 : 16 ≤ (s.size : Int) := by omega
    have hz3 : 16 ≤ s.size := by omega
    clear hsz h16
    go_enter Try.func43, Try.ntmps43
    go_wp2
    go_loop [4, 5] (fun u i => ∃ (k b : Nat), k ≤ 16 ∧ i = .int .i64 k ∧ u = .int .u64 b ∧ rdk s.data.toList k = some b) (fun _ i => 16 - (intOf i).toNat)
    case atStart => exact ⟨0, 0, by omega, rfl, rfl, rfl⟩
    case round =>
      obtain ⟨k, b, hk, rfl, rfl, hr⟩ := hrel
      have HR := Lib.hid hr
      have hbl := rdk_lt hr
      clear hr
      by_cases hlt : k < 16
      · have hb60 : b < 1152921504606846976 := by
          have : 16 ^ k ≤ 16 ^ 15 := Nat.pow_le_pow_right (by omega) (by omega)
          have e : (16 : Nat) ^ 15 = 1152921504606846976 := by decide
          omega
        obtain ⟨cb, hcb⟩ : ∃ cb, s.data.toList.getD k 0 = cb := ⟨_, rfl⟩
        obtain ⟨n, hn⟩ : ∃ n, cb.toNat = n := ⟨_, rfl⟩
        have hs : ∀ h : k < s.size, (s[k]'h).toNat = n := fun h => by rw [byte_at s k h, hcb, hn]
        have hc := hv_cases cb
        rw [hn] at hc
        have hstep : ∀ d, hv cb = some d → rdk s.data.toList (k + 1) = some (16 * b + d) := fun d h => rdk_step HR.out (by rw [hcb]; exact h)
        have hstop : hv cb = none → readV s.data.toList = (0, false) := fun h => readV_none (rdk_none (rdk_stop (l := s.data.toList) (k := k) (by rw [hcb]; exact h)) 16 (by omega))
        clear hcb hbl hn
        have HSTEP := Lib.hid hstep
        have HSTOP := Lib.hid hstop
        clear hstep hstop
        by_cases c1 : 48 ≤ n ∧ n ≤ 57
        · obtain ⟨a1, a2⟩ := c1
          have HS := Lib.hid (HSTEP.out (n - 48) (by rcases hc with h | h | h | h | h <;> first | exact h.2.2 | omega))
          clear hc
          go_wp2
          go_round
          case rel => exact ⟨k + 1, 16 * b + (n - 48), by omega, by go_num, by congr 1; omega, HS.out⟩
          case measure => simp [intOf]; omega
        · by_cases c2 : 97 ≤ n ∧ n ≤ 102
          · obtain ⟨a1, a2⟩ := c2
            have HS := Lib.hid (HSTEP.out (n - 87) (by rcases hc with h | h | h | h | h <;> first | exact h.2.2 | omega))
            clear hc c1
            go_wp2
            go_round
            case rel => exact ⟨k + 1, 16 * b + (n - 87), by omega, by go_num, by congr 1; omega, HS.out⟩
            case measure => simp [intOf]; omega
          · have HV := Lib.hid (HSTOP.out (by rcases hc with h | h | h | h | h <;> first | exact h.2 | exact h.2.2 | omega))
            clear hc
            by_cases c3 : n < 48
            · clear c1 c2
              go_wp2
              go_ret2
              exact ⟨by rw [HV.out]; rfl, rfl⟩
            · by_cases c4 : n ≤ 96
              · have c5 : 58 ≤ n := by omega
                clear c1 c2
                go_wp2
                go_ret2
                exact ⟨by rw [HV.out]; rfl, rfl⟩
              · have c5 : 103 ≤ n := by omega
                clear c1 c2
                go_wp2
                go_ret2
                exact ⟨by rw [HV.out]; rfl, rfl⟩
      · have hk16 : k = 16 := by omega
        subst hk16
        have hb64 : b < 18446744073709551616 := by rw [show (18446744073709551616 : Nat) = 16 ^ 16 by decide]; exact hbl
        have hv2 := readV_some HL.out HR.out
        have ht := text_rdk HL.out HR.out
        have CT := Lib.hid (refText_c b hb64)
        clear hbl hlt
        by_cases ho : onev b = b
        · have HV := Lib.hid (hv2.trans (if_pos ho))
          rw [ho, ht] at CT
          have es : (⟨s.data.toList.toArray⟩ : ByteArray) = s := rfl
          rw [es] at CT
          have e1 : (s.toList == s.toList) = true := by simp
          clear hv2 ht ho es
          go_wp2_with (go_at_call 41; refine (CT.out _).mono ?_; rintro e w' ⟨rfl, rfl⟩)
          all_goals go_ret2
          exact ⟨by rw [HV.out]; rfl, rfl⟩
        · have HV := Lib.hid (hv2.trans (if_neg ho))
          have hne : textL (onev b) ≠ s.data.toList := by
            intro e
            apply ho
            have h1 := rdk_text (onev b) (onev_lt hb64) 16 (by omega)
            rw [e, HR.out] at h1
            simpa using h1.symm
          obtain ⟨t, htt⟩ : ∃ t : ByteArray, (⟨(textL (onev b)).toArray⟩ : ByteArray) = t := ⟨_, rfl⟩
          have hne2 : (t.toList == s.toList) = false := by
            rw [beq_eq_false_iff_ne, ByteArray.toList_eq, ByteArray.toList_eq, ← htt]
            exact hne
          rw [htt] at CT
          clear hv2 ht ho hne htt
          go_wp2_with (go_at_call 41; refine (CT.out _).mono ?_; rintro e w' ⟨rfl, rfl⟩)
          all_goals go_ret2
          exact ⟨by rw [HV.out]; rfl, rfl⟩
  · have hsz : ¬ s.size = 16 := fun e => h16 (by rw [Array.length_toList]; exact e)
    have e0 : ((s.size : Int) != 16) = true := by rw [bne_iff_ne]; omega
    have HV := Lib.hid (readV_short h16)
    clear hsz h16
    go_enter Try.func43, Try.ntmps43
    go_wp2
    go_ret2
    exact ⟨by rw [HV.out]; rfl, rfl⟩
end Go.Proofs.Ytplejggfeehbcaa
