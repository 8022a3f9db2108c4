/-
  The walks of LotsPick and LotsNil.
-/
import Derived.Test.YtplejggfeehbcaaLotG
namespace Go.Proofs.Ytplejggfeehbcaa
open Go.RowKit
set_option linter.unusedSimpArgs false

theorem int_wf {a : Int} (h : (Lit.int .i64 a).wf = true) : -9223372036854775808 ≤ a ∧ a ≤ 9223372036854775807 := by
  simp only [Lit.wf, Bool.and_eq_true, decide_eq_true_eq] at h
  exact ⟨h.1, h.2⟩

set_option maxHeartbeats 2000000 in
set_option maxRecDepth 100000 in
theorem lotsPick_walk (raw n : Int) (w : World) (hr : (Lit.int .i64 raw).wf = true) (hn : (Lit.int .i64 n).wf = true) :
    Calls Try.prog 12 #[.int .i64 raw, .int .i64 n] w fun e w' => e = .returned (.bool true) ∧ Below w.heap.size w w' := by
  have hr := int_wf hr
  have hn := int_wf hn
  have C1 := Lib.hid (fun w => pick_c raw n w hr hn.2)
  have C2 := Lib.hid (fun w => refPick_c raw n w hr hn.2)
  have C3 := Lib.hid (fun w => choose_c raw none 0 0 [] n w ⟨rfl, by omega, (by intro x hx; cases hx), fun h0 => absurd h0 (by omega)⟩ (by omega) (fun _ => ⟨rfl, rfl⟩) (by omega) hr hn.2)
  rw [show chooseV raw [] n = pickV raw n from rfl] at C3
  generalize pickV raw n = v at *
  go_enter Try.func12, Try.ntmps12
  go_wp2_with (first
    | (go_at_call 54; refine (awake17_c _).mono ?_; rintro e w1 ⟨rfl, hb⟩; have HB1 := Lib.hid hb; clear hb)
    | (go_at_call 55; refine (C1.out _).mono ?_; rintro e w2 ⟨rfl, rfl⟩)
    | (go_at_call 57; refine (C2.out _).mono ?_; rintro e w2 ⟨rfl, rfl⟩)
    | (go_at_call 56; refine (C3.out _).mono ?_; rintro e w3 ⟨rfl, hb⟩; have HB3 := Lib.hid hb; clear hb))
  go_ret
  exact ⟨rfl, HB1.out.trans (HB3.out.mono HB1.out.size)⟩

set_option maxHeartbeats 2000000 in
set_option maxRecDepth 100000 in
theorem lotsNil_walk (n : Int) (w : World) (_hn : (Lit.int .i64 n).wf = true) :
    Calls Try.prog 17 #[.int .i64 n] w fun e w' => e = .returned (.bool true) ∧ Below w.heap.size w w' := by
  have C1 := Lib.hid (fun w => next_nil n w)
  by_cases h1 : n < 1
  · rw [if_pos h1] at C1
    go_enter Try.func17, Try.ntmps17
    go_wp2_with (first
      | (go_at_call 54; refine (awake17_c _).mono ?_; rintro e w1 ⟨rfl, hb⟩; have HB1 := Lib.hid hb; clear hb)
      | (go_at_call 64; refine (C1.out _).mono ?_; rintro e w2 ⟨rfl, rfl⟩)
      | (go_at_call 66; refine (used_nil _).mono ?_; rintro e w2 ⟨rfl, rfl⟩)
      | (go_at_call 67; refine (left_nil _).mono ?_; rintro e w2 ⟨rfl, rfl⟩))
    go_ret
    exact ⟨rfl, HB1.out⟩
  · rw [if_neg h1] at C1
    go_enter Try.func17, Try.ntmps17
    go_wp2_with (first
      | (go_at_call 54; refine (awake17_c _).mono ?_; rintro e w1 ⟨rfl, hb⟩; have HB1 := Lib.hid hb; clear hb)
      | (go_at_call 64; refine (C1.out _).mono ?_; rintro e w2 ⟨rfl, rfl⟩)
      | (go_at_call 66; refine (used_nil _).mono ?_; rintro e w2 ⟨rfl, rfl⟩)
      | (go_at_call 67; refine (left_nil _).mono ?_; rintro e w2 ⟨rfl, rfl⟩))
    go_ret
    exact ⟨rfl, HB1.out⟩
end Go.Proofs.Ytplejggfeehbcaa
