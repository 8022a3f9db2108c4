/-
  Functions of the statement TypesAssigns, each as a Lean function with its contract (part 3).
-/
import Derived.Test.YtddagoihchlihaaPTypesAssignsx0
import Derived.Test.YtddagoihchlihaaPTypesAssignsx1
import Derived.Test.YtddagoihchlihaaQTypesAssignsx2
namespace Go.Proofs.Ytddagoihchlihaa.PTypesAssigns
open Go.RowKit Go.Proofs.YtddagoihchlihaaW.PrintWords Go.Proofs.YtddagoihchlihaaW.PrintLast Go.Proofs.YtddagoihchlihaaW.PrintMore
attribute [local go_sem] max2_int min2_int max_two min_two max_three min_three max_four min_four   -- for this text's walks alone
set_option linter.unusedVariables false
set_option linter.unusedSimpArgs false

/-! ### drowseref04_Receives: function 14 -/
def drowseref04_Receives.f (k : Nat) (a0 : ByteArray) : Option (Bool) := (drowseref04_Split.f k a0).bind fun bt160 => (if bt160.2.2 = true then (some (bt160.1 != 1)) else (some false))
theorem drowseref04_Receives.mono : ∀ a0 k, LeO (drowseref04_Receives.f k a0) (drowseref04_Receives.f (k + 1) a0) := by
  intro a0 k
  unfold drowseref04_Receives.f
  repeat' first
      | (with_reducible exact drowseref04_Split.mono _ _)
      | (with_reducible exact LeO.refl _)
      | (with_reducible exact LeO.none _)
      | (with_reducible refine LeO.ite ?_ ?_)
      | (with_reducible refine LeO.bind ?_ (fun _ => ?_))
      | exact drowseref04_Split.mono _ _
      | exact LeO.none _
      | refine LeO.ite ?_ ?_
      | refine LeO.bind ?_ (fun _ => ?_)
set_option maxHeartbeats 8000000 in
set_option maxRecDepth 100000 in
theorem drowseref04_Receives.calls (k : Nat) (a0 : ByteArray) (r : Bool) (w : World) (h : drowseref04_Receives.f k a0 = some r) :
    Calls Try.prog 14 #[.string a0] w fun e w' => e = .returned (.bool r) ∧ Drawn0 w w' := by
  have H : ((drowseref04_Split.f k a0).bind fun bt160 => (if bt160.2.2 = true then (some (bt160.1 != 1)) else (some false))) = some r := h
  clear h
  replace H := Option.bind_eq_some_iff.mp H
  obtain ⟨⟨t160, t161, t162⟩, A20, H⟩ := H
  replace H : (if t162 = true then (some (t160 != 1)) else (some false)) = some r := H
  have A2 := Aside0.mk A20
  clear A20
  by_cases c3 : t162 = true
  · subst c3
    have H1 : (some (t160 != 1)) = some r := by rw [if_pos rfl] at H; exact H
    clear H
    have H := H1
    clear H1
    obtain rfl := Option.some.inj H
    go_enter Try.func14, Try.ntmps14
    go_wp2_with (first | ((with_reducible refine gate_callee (f := 22) rfl ?_); refine goesL_ (some 8) rfl rfl Try.func22 (by kernel_rfl) rfl #[.string a0] rfl (by (try simp only [List.map_toArray, List.map_cons, List.map_nil]); first | done | rfl | (simp only [List.length_drop, List.length_take]; rfl)) ?_; (with_reducible refine (drowseref04_Split.calls k a0 t160 t161 true _ A2.out).mono ?_); rintro e w' ⟨rfl, ⟨nd, rfl⟩⟩; refine ⟨_, rfl, ?_⟩))
    go_ret
    exact ⟨by first | rfl | (simp; done) | (simp [*]; done), by repeat (first | exact Drawn0.refl _ | apply Drawn0.step)⟩
  · replace c3 := Bool.eq_false_iff.mpr c3
    subst c3
    have H1 : (some false) = some r := by rw [if_neg (show ¬ (false = true) by decide)] at H; exact H
    clear H
    have H := H1
    clear H1
    obtain rfl := Option.some.inj H
    go_enter Try.func14, Try.ntmps14
    go_wp2_with (first | ((with_reducible refine gate_callee (f := 22) rfl ?_); refine goesL_ (some 8) rfl rfl Try.func22 (by kernel_rfl) rfl #[.string a0] rfl (by (try simp only [List.map_toArray, List.map_cons, List.map_nil]); first | done | rfl | (simp only [List.length_drop, List.length_take]; rfl)) ?_; (with_reducible refine (drowseref04_Split.calls k a0 t160 t161 false _ A2.out).mono ?_); rintro e w' ⟨rfl, ⟨nd, rfl⟩⟩; refine ⟨_, rfl, ?_⟩))
    go_ret
    exact ⟨by first | rfl | (simp; done) | (simp [*]; done), by repeat (first | exact Drawn0.refl _ | apply Drawn0.step)⟩

/-! ### drowseref04_Assignable: function 15 -/
def drowseref04_Assignable.f (k : Nat) (a0 : ByteArray) (a1 : ByteArray) : Option (Bool) := (drowseref04_Right.f k a1).bind fun t163 => (if t163 = true then (if a0.toList = a1.toList then (some true) else ((drowseref04_Split.f k a1).bind fun bt164 => (if a0.toList = ([110, 105, 108] : List UInt8) then (if bt164.2.2 = true then (some true) else (if a1.toList = ([77, 117, 116, 101, 120] : List UInt8) then (some true) else (some (a1.toList == ([87, 97, 105, 116, 71, 114, 111, 117, 112] : List UInt8))))) else ((drowseref04_Split.f k a0).bind fun bt167 => (if bt164.2.2 = true then (if bt167.2.2 = true then (if bt167.1 = 0 then (if bt164.1 = 0 then (some false) else (some (bt164.2.1.toList == bt167.2.1.toList))) else (some false)) else (some false)) else (some false)))))) else (some false))
theorem drowseref04_Assignable.mono : ∀ a0 a1 k, LeO (drowseref04_Assignable.f k a0 a1) (drowseref04_Assignable.f (k + 1) a0 a1) := by
  intro a0 a1 k
  unfold drowseref04_Assignable.f
  repeat' first
      | (with_reducible exact drowseref04_Right.mono _ _)
      | (with_reducible exact drowseref04_Split.mono _ _)
      | (with_reducible exact LeO.refl _)
      | (with_reducible exact LeO.none _)
      | (with_reducible refine LeO.ite ?_ ?_)
      | (with_reducible refine LeO.bind ?_ (fun _ => ?_))
      | exact drowseref04_Right.mono _ _
      | exact drowseref04_Split.mono _ _
      | exact LeO.none _
      | refine LeO.ite ?_ ?_
      | refine LeO.bind ?_ (fun _ => ?_)
set_option maxHeartbeats 8000000 in
set_option maxRecDepth 100000 in
theorem drowseref04_Assignable.calls (k : Nat) (a0 : ByteArray) (a1 : ByteArray) (r : Bool) (w : World) (h : drowseref04_Assignable.f k a0 a1 = some r) :
    Calls Try.prog 15 #[.string a0, .string a1] w fun e w' => e = .returned (.bool r) ∧ Drawn0 w w' := by
  have H : ((drowseref04_Right.f k a1).bind fun t163 => (if t163 = true then (if a0.toList = a1.toList then (some true) else ((drowseref04_Split.f k a1).bind fun bt164 => (if a0.toList = ([110, 105, 108] : List UInt8) then (if bt164.2.2 = true then (some true) else (if a1.toList = ([77, 117, 116, 101, 120] : List UInt8) then (some true) else (some (a1.toList == ([87, 97, 105, 116, 71, 114, 111, 117, 112] : List UInt8))))) else ((drowseref04_Split.f k a0).bind fun bt167 => (if bt164.2.2 = true then (if bt167.2.2 = true then (if bt167.1 = 0 then (if bt164.1 = 0 then (some false) else (some (bt164.2.1.toList == bt167.2.1.toList))) else (some false)) else (some false)) else (some false)))))) else (some false))) = some r := h
  clear h
  replace H := Option.bind_eq_some_iff.mp H
  obtain ⟨t163, A30, H⟩ := H
  replace H : (if t163 = true then (if a0.toList = a1.toList then (some true) else ((drowseref04_Split.f k a1).bind fun bt164 => (if a0.toList = ([110, 105, 108] : List UInt8) then (if bt164.2.2 = true then (some true) else (if a1.toList = ([77, 117, 116, 101, 120] : List UInt8) then (some true) else (some (a1.toList == ([87, 97, 105, 116, 71, 114, 111, 117, 112] : List UInt8))))) else ((drowseref04_Split.f k a0).bind fun bt167 => (if bt164.2.2 = true then (if bt167.2.2 = true then (if bt167.1 = 0 then (if bt164.1 = 0 then (some false) else (some (bt164.2.1.toList == bt167.2.1.toList))) else (some false)) else (some false)) else (some false)))))) else (some false)) = some r := H
  have A3 := Aside0.mk A30
  clear A30
  by_cases c4 : t163 = true
  · subst c4
    have H1 : (if a0.toList = a1.toList then (some true) else ((drowseref04_Split.f k a1).bind fun bt164 => (if a0.toList = ([110, 105, 108] : List UInt8) then (if bt164.2.2 = true then (some true) else (if a1.toList = ([77, 117, 116, 101, 120] : List UInt8) then (some true) else (some (a1.toList == ([87, 97, 105, 116, 71, 114, 111, 117, 112] : List UInt8))))) else ((drowseref04_Split.f k a0).bind fun bt167 => (if bt164.2.2 = true then (if bt167.2.2 = true then (if bt167.1 = 0 then (if bt164.1 = 0 then (some false) else (some (bt164.2.1.toList == bt167.2.1.toList))) else (some false)) else (some false)) else (some false)))))) = some r := by rw [if_pos rfl] at H; exact H
    clear H
    have H := H1
    clear H1
    by_cases c5 : a0.toList = a1.toList
    · rw [if_pos c5] at H
      have c5b0 : (a0.toList == a1.toList) = true := beq_iff_eq.mpr c5
      have c5b1 : (a0.toList != a1.toList) = false := bne_eq_false_iff_eq.mpr c5
      clear c5
      obtain rfl := Option.some.inj H
      go_enter Try.func15, Try.ntmps15
      go_wp2_with (first | ((with_reducible refine gate_callee (f := 23) rfl ?_); refine goesL_ (some 13) rfl rfl Try.func23 (by kernel_rfl) rfl #[.string a1] rfl (by (try simp only [List.map_toArray, List.map_cons, List.map_nil]); first | done | rfl | (simp only [List.length_drop, List.length_take]; rfl)) ?_; (with_reducible refine (drowseref04_Right.calls k a1 true _ A3.out).mono ?_); rintro e w' ⟨rfl, ⟨nd, rfl⟩⟩; refine ⟨_, rfl, ?_⟩))
      go_ret
      exact ⟨by first | rfl | (simp; done) | (simp [*]; done), by repeat (first | exact Drawn0.refl _ | apply Drawn0.step)⟩
    · rw [if_neg c5] at H
      have c5b0 : (a0.toList == a1.toList) = false := beq_eq_false_iff_ne.mpr c5
      have c5b1 : (a0.toList != a1.toList) = true := bne_iff_ne.mpr c5
      replace H := Option.bind_eq_some_iff.mp H
      obtain ⟨⟨t164, t165, t166⟩, A60, H⟩ := H
      replace H : (if a0.toList = ([110, 105, 108] : List UInt8) then (if t166 = true then (some true) else (if a1.toList = ([77, 117, 116, 101, 120] : List UInt8) then (some true) else (some (a1.toList == ([87, 97, 105, 116, 71, 114, 111, 117, 112] : List UInt8))))) else ((drowseref04_Split.f k a0).bind fun bt167 => (if t166 = true then (if bt167.2.2 = true then (if bt167.1 = 0 then (if t164 = 0 then (some false) else (some (t165.toList == bt167.2.1.toList))) else (some false)) else (some false)) else (some false)))) = some r := H
      have A6 := Aside0.mk A60
      clear A60
      by_cases c7 : a0.toList = ([110, 105, 108] : List UInt8)
      · rw [if_pos c7] at H
        have c7b0 : (a0.toList == ([110, 105, 108] : List UInt8)) = true := beq_iff_eq.mpr c7
        have c7b1 : (a0.toList != ([110, 105, 108] : List UInt8)) = false := bne_eq_false_iff_eq.mpr c7
        clear c7
        by_cases c8 : t166 = true
        · subst c8
          have H1 : (some true) = some r := by rw [if_pos rfl] at H; exact H
          clear H
          have H := H1
          clear H1
          obtain rfl := Option.some.inj H
          go_enter Try.func15, Try.ntmps15
          go_wp2_with (first | ((with_reducible refine gate_callee (f := 23) rfl ?_); refine goesL_ (some 13) rfl rfl Try.func23 (by kernel_rfl) rfl #[.string a1] rfl (by (try simp only [List.map_toArray, List.map_cons, List.map_nil]); first | done | rfl | (simp only [List.length_drop, List.length_take]; rfl)) ?_; (with_reducible refine (drowseref04_Right.calls k a1 true _ A3.out).mono ?_); rintro e w' ⟨rfl, ⟨nd, rfl⟩⟩; refine ⟨_, rfl, ?_⟩) | ((with_reducible refine gate_callee (f := 22) rfl ?_); refine goesL_ (some 21) rfl rfl Try.func22 (by kernel_rfl) rfl #[.string a1] rfl (by (try simp only [List.map_toArray, List.map_cons, List.map_nil]); first | done | rfl | (simp only [List.length_drop, List.length_take]; rfl)) ?_; (with_reducible refine (drowseref04_Split.calls k a1 t164 t165 true _ A6.out).mono ?_); rintro e w' ⟨rfl, ⟨nd, rfl⟩⟩; refine ⟨_, rfl, ?_⟩))
          go_ret
          exact ⟨by first | rfl | (simp; done) | (simp [*]; done), by repeat (first | exact Drawn0.refl _ | apply Drawn0.step)⟩
        · replace c8 := Bool.eq_false_iff.mpr c8
          subst c8
          have H1 : (if a1.toList = ([77, 117, 116, 101, 120] : List UInt8) then (some true) else (some (a1.toList == ([87, 97, 105, 116, 71, 114, 111, 117, 112] : List UInt8)))) = some r := by rw [if_neg (show ¬ (false = true) by decide)] at H; exact H
          clear H
          have H := H1
          clear H1
          by_cases c9 : a1.toList = ([77, 117, 116, 101, 120] : List UInt8)
          · rw [if_pos c9] at H
            have c9b0 : (a1.toList == ([77, 117, 116, 101, 120] : List UInt8)) = true := beq_iff_eq.mpr c9
            have c9b1 : (a1.toList != ([77, 117, 116, 101, 120] : List UInt8)) = false := bne_eq_false_iff_eq.mpr c9
            clear c9
            obtain rfl := Option.some.inj H
            go_enter Try.func15, Try.ntmps15
            go_wp2_with (first | ((with_reducible refine gate_callee (f := 23) rfl ?_); refine goesL_ (some 13) rfl rfl Try.func23 (by kernel_rfl) rfl #[.string a1] rfl (by (try simp only [List.map_toArray, List.map_cons, List.map_nil]); first | done | rfl | (simp only [List.length_drop, List.length_take]; rfl)) ?_; (with_reducible refine (drowseref04_Right.calls k a1 true _ A3.out).mono ?_); rintro e w' ⟨rfl, ⟨nd, rfl⟩⟩; refine ⟨_, rfl, ?_⟩) | ((with_reducible refine gate_callee (f := 22) rfl ?_); refine goesL_ (some 21) rfl rfl Try.func22 (by kernel_rfl) rfl #[.string a1] rfl (by (try simp only [List.map_toArray, List.map_cons, List.map_nil]); first | done | rfl | (simp only [List.length_drop, List.length_take]; rfl)) ?_; (with_reducible refine (drowseref04_Split.calls k a1 t164 t165 false _ A6.out).mono ?_); rintro e w' ⟨rfl, ⟨nd, rfl⟩⟩; refine ⟨_, rfl, ?_⟩))
            go_ret
            exact ⟨by first | rfl | (simp; done) | (simp [*]; done), by repeat (first | exact Drawn0.refl _ | apply Drawn0.step)⟩
          · rw [if_neg c9] at H
            have c9b0 : (a1.toList == ([77, 117, 116, 101, 120] : List UInt8)) = false := beq_eq_false_iff_ne.mpr c9
            have c9b1 : (a1.toList != ([77, 117, 116, 101, 120] : List UInt8)) = true := bne_iff_ne.mpr c9
            obtain rfl := Option.some.inj H
            go_enter Try.func15, Try.ntmps15
            go_wp2_with (first | ((with_reducible refine gate_callee (f := 23) rfl ?_); refine goesL_ (some 13) rfl rfl Try.func23 (by kernel_rfl) rfl #[.string a1] rfl (by (try simp only [List.map_toArray, List.map_cons, List.map_nil]); first | done | rfl | (simp only [List.length_drop, List.length_take]; rfl)) ?_; (with_reducible refine (drowseref04_Right.calls k a1 true _ A3.out).mono ?_); rintro e w' ⟨rfl, ⟨nd, rfl⟩⟩; refine ⟨_, rfl, ?_⟩) | ((with_reducible refine gate_callee (f := 22) rfl ?_); refine goesL_ (some 21) rfl rfl Try.func22 (by kernel_rfl) rfl #[.string a1] rfl (by (try simp only [List.map_toArray, List.map_cons, List.map_nil]); first | done | rfl | (simp only [List.length_drop, List.length_take]; rfl)) ?_; (with_reducible refine (drowseref04_Split.calls k a1 t164 t165 false _ A6.out).mono ?_); rintro e w' ⟨rfl, ⟨nd, rfl⟩⟩; refine ⟨_, rfl, ?_⟩))
            go_ret
            exact ⟨by first | rfl | (simp; done) | (simp [*]; done), by repeat (first | exact Drawn0.refl _ | apply Drawn0.step)⟩
      · rw [if_neg c7] at H
        have c7b0 : (a0.toList == ([110, 105, 108] : List UInt8)) = false := beq_eq_false_iff_ne.mpr c7
        have c7b1 : (a0.toList != ([110, 105, 108] : List UInt8)) = true := bne_iff_ne.mpr c7
        replace H := Option.bind_eq_some_iff.mp H
        obtain ⟨⟨t167, t168, t169⟩, A100, H⟩ := H
        replace H : (if t166 = true then (if t169 = true then (if t167 = 0 then (if t164 = 0 then (some false) else (some (t165.toList == t168.toList))) else (some false)) else (some false)) else (some false)) = some r := H
        have A10 := Aside0.mk A100
        clear A100
        by_cases c11 : t166 = true
        · subst c11
          have H1 : (if t169 = true then (if t167 = 0 then (if t164 = 0 then (some false) else (some (t165.toList == t168.toList))) else (some false)) else (some false)) = some r := by rw [if_pos rfl] at H; exact H
          clear H
          have H := H1
          clear H1
          by_cases c12 : t169 = true
          · subst c12
            have H1 : (if t167 = 0 then (if t164 = 0 then (some false) else (some (t165.toList == t168.toList))) else (some false)) = some r := by rw [if_pos rfl] at H; exact H
            clear H
            have H := H1
            clear H1
            by_cases c13 : t167 = 0
            · rw [if_pos c13] at H
              have c13b0 : (t167 == 0) = true := beq_iff_eq.mpr c13
              have c13b1 : (t167 != 0) = false := bne_eq_false_iff_eq.mpr c13
              clear c13
              by_cases c14 : t164 = 0
              · rw [if_pos c14] at H
                have c14b0 : (t164 == 0) = true := beq_iff_eq.mpr c14
                have c14b1 : (t164 != 0) = false := bne_eq_false_iff_eq.mpr c14
                clear c14
                obtain rfl := Option.some.inj H
                go_enter Try.func15, Try.ntmps15
                go_wp2_with (first | ((with_reducible refine gate_callee (f := 23) rfl ?_); refine goesL_ (some 13) rfl rfl Try.func23 (by kernel_rfl) rfl #[.string a1] rfl (by (try simp only [List.map_toArray, List.map_cons, List.map_nil]); first | done | rfl | (simp only [List.length_drop, List.length_take]; rfl)) ?_; (with_reducible refine (drowseref04_Right.calls k a1 true _ A3.out).mono ?_); rintro e w' ⟨rfl, ⟨nd, rfl⟩⟩; refine ⟨_, rfl, ?_⟩) | ((with_reducible refine gate_callee (f := 22) rfl ?_); refine goesL_ (some 21) rfl rfl Try.func22 (by kernel_rfl) rfl #[.string a1] rfl (by (try simp only [List.map_toArray, List.map_cons, List.map_nil]); first | done | rfl | (simp only [List.length_drop, List.length_take]; rfl)) ?_; (with_reducible refine (drowseref04_Split.calls k a1 t164 t165 true _ A6.out).mono ?_); rintro e w' ⟨rfl, ⟨nd, rfl⟩⟩; refine ⟨_, rfl, ?_⟩) | ((with_reducible refine gate_callee (f := 22) rfl ?_); refine goesL_ (some 38) rfl rfl Try.func22 (by kernel_rfl) rfl #[.string a0] rfl (by (try simp only [List.map_toArray, List.map_cons, List.map_nil]); first | done | rfl | (simp only [List.length_drop, List.length_take]; rfl)) ?_; (with_reducible refine (drowseref04_Split.calls k a0 t167 t168 true _ A10.out).mono ?_); rintro e w' ⟨rfl, ⟨nd, rfl⟩⟩; refine ⟨_, rfl, ?_⟩))
                go_ret
                exact ⟨by first | rfl | (simp; done) | (simp [*]; done), by repeat (first | exact Drawn0.refl _ | apply Drawn0.step)⟩
              · rw [if_neg c14] at H
                have c14b0 : (t164 == 0) = false := beq_eq_false_iff_ne.mpr c14
                have c14b1 : (t164 != 0) = true := bne_iff_ne.mpr c14
                obtain rfl := Option.some.inj H
                go_enter Try.func15, Try.ntmps15
                go_wp2_with (first | ((with_reducible refine gate_callee (f := 23) rfl ?_); refine goesL_ (some 13) rfl rfl Try.func23 (by kernel_rfl) rfl #[.string a1] rfl (by (try simp only [List.map_toArray, List.map_cons, List.map_nil]); first | done | rfl | (simp only [List.length_drop, List.length_take]; rfl)) ?_; (with_reducible refine (drowseref04_Right.calls k a1 true _ A3.out).mono ?_); rintro e w' ⟨rfl, ⟨nd, rfl⟩⟩; refine ⟨_, rfl, ?_⟩) | ((with_reducible refine gate_callee (f := 22) rfl ?_); refine goesL_ (some 21) rfl rfl Try.func22 (by kernel_rfl) rfl #[.string a1] rfl (by (try simp only [List.map_toArray, List.map_cons, List.map_nil]); first | done | rfl | (simp only [List.length_drop, List.length_take]; rfl)) ?_; (with_reducible refine (drowseref04_Split.calls k a1 t164 t165 true _ A6.out).mono ?_); rintro e w' ⟨rfl, ⟨nd, rfl⟩⟩; refine ⟨_, rfl, ?_⟩) | ((with_reducible refine gate_callee (f := 22) rfl ?_); refine goesL_ (some 38) rfl rfl Try.func22 (by kernel_rfl) rfl #[.string a0] rfl (by (try simp only [List.map_toArray, List.map_cons, List.map_nil]); first | done | rfl | (simp only [List.length_drop, List.length_take]; rfl)) ?_; (with_reducible refine (drowseref04_Split.calls k a0 t167 t168 true _ A10.out).mono ?_); rintro e w' ⟨rfl, ⟨nd, rfl⟩⟩; refine ⟨_, rfl, ?_⟩))
                go_ret
                exact ⟨by first | rfl | (simp; done) | (simp [*]; done), by repeat (first | exact Drawn0.refl _ | apply Drawn0.step)⟩
            · rw [if_neg c13] at H
              have c13b0 : (t167 == 0) = false := beq_eq_false_iff_ne.mpr c13
              have c13b1 : (t167 != 0) = true := bne_iff_ne.mpr c13
              obtain rfl := Option.some.inj H
              go_enter Try.func15, Try.ntmps15
              go_wp2_with (first | ((with_reducible refine gate_callee (f := 23) rfl ?_); refine goesL_ (some 13) rfl rfl Try.func23 (by kernel_rfl) rfl #[.string a1] rfl (by (try simp only [List.map_toArray, List.map_cons, List.map_nil]); first | done | rfl | (simp only [List.length_drop, List.length_take]; rfl)) ?_; (with_reducible refine (drowseref04_Right.calls k a1 true _ A3.out).mono ?_); rintro e w' ⟨rfl, ⟨nd, rfl⟩⟩; refine ⟨_, rfl, ?_⟩) | ((with_reducible refine gate_callee (f := 22) rfl ?_); refine goesL_ (some 21) rfl rfl Try.func22 (by kernel_rfl) rfl #[.string a1] rfl (by (try simp only [List.map_toArray, List.map_cons, List.map_nil]); first | done | rfl | (simp only [List.length_drop, List.length_take]; rfl)) ?_; (with_reducible refine (drowseref04_Split.calls k a1 t164 t165 true _ A6.out).mono ?_); rintro e w' ⟨rfl, ⟨nd, rfl⟩⟩; refine ⟨_, rfl, ?_⟩) | ((with_reducible refine gate_callee (f := 22) rfl ?_); refine goesL_ (some 38) rfl rfl Try.func22 (by kernel_rfl) rfl #[.string a0] rfl (by (try simp only [List.map_toArray, List.map_cons, List.map_nil]); first | done | rfl | (simp only [List.length_drop, List.length_take]; rfl)) ?_; (with_reducible refine (drowseref04_Split.calls k a0 t167 t168 true _ A10.out).mono ?_); rintro e w' ⟨rfl, ⟨nd, rfl⟩⟩; refine ⟨_, rfl, ?_⟩))
              go_ret
              exact ⟨by first | rfl | (simp; done) | (simp [*]; done), by repeat (first | exact Drawn0.refl _ | apply Drawn0.step)⟩
          · replace c12 := Bool.eq_false_iff.mpr c12
            subst c12
            have H1 : (some false) = some r := by rw [if_neg (show ¬ (false = true) by decide)] at H; exact H
            clear H
            have H := H1
            clear H1
            obtain rfl := Option.some.inj H
            go_enter Try.func15, Try.ntmps15
            go_wp2_with (first | ((with_reducible refine gate_callee (f := 23) rfl ?_); refine goesL_ (some 13) rfl rfl Try.func23 (by kernel_rfl) rfl #[.string a1] rfl (by (try simp only [List.map_toArray, List.map_cons, List.map_nil]); first | done | rfl | (simp only [List.length_drop, List.length_take]; rfl)) ?_; (with_reducible refine (drowseref04_Right.calls k a1 true _ A3.out).mono ?_); rintro e w' ⟨rfl, ⟨nd, rfl⟩⟩; refine ⟨_, rfl, ?_⟩) | ((with_reducible refine gate_callee (f := 22) rfl ?_); refine goesL_ (some 21) rfl rfl Try.func22 (by kernel_rfl) rfl #[.string a1] rfl (by (try simp only [List.map_toArray, List.map_cons, List.map_nil]); first | done | rfl | (simp only [List.length_drop, List.length_take]; rfl)) ?_; (with_reducible refine (drowseref04_Split.calls k a1 t164 t165 true _ A6.out).mono ?_); rintro e w' ⟨rfl, ⟨nd, rfl⟩⟩; refine ⟨_, rfl, ?_⟩) | ((with_reducible refine gate_callee (f := 22) rfl ?_); refine goesL_ (some 38) rfl rfl Try.func22 (by kernel_rfl) rfl #[.string a0] rfl (by (try simp only [List.map_toArray, List.map_cons, List.map_nil]); first | done | rfl | (simp only [List.length_drop, List.length_take]; rfl)) ?_; (with_reducible refine (drowseref04_Split.calls k a0 t167 t168 false _ A10.out).mono ?_); rintro e w' ⟨rfl, ⟨nd, rfl⟩⟩; refine ⟨_, rfl, ?_⟩))
            go_ret
            exact ⟨by first | rfl | (simp; done) | (simp [*]; done), by repeat (first | exact Drawn0.refl _ | apply Drawn0.step)⟩
        · replace c11 := Bool.eq_false_iff.mpr c11
          subst c11
          have H1 : (some false) = some r := by rw [if_neg (show ¬ (false = true) by decide)] at H; exact H
          clear H
          have H := H1
          clear H1
          obtain rfl := Option.some.inj H
          go_enter Try.func15, Try.ntmps15
          go_wp2_with (first | ((with_reducible refine gate_callee (f := 23) rfl ?_); refine goesL_ (some 13) rfl rfl Try.func23 (by kernel_rfl) rfl #[.string a1] rfl (by (try simp only [List.map_toArray, List.map_cons, List.map_nil]); first | done | rfl | (simp only [List.length_drop, List.length_take]; rfl)) ?_; (with_reducible refine (drowseref04_Right.calls k a1 true _ A3.out).mono ?_); rintro e w' ⟨rfl, ⟨nd, rfl⟩⟩; refine ⟨_, rfl, ?_⟩) | ((with_reducible refine gate_callee (f := 22) rfl ?_); refine goesL_ (some 21) rfl rfl Try.func22 (by kernel_rfl) rfl #[.string a1] rfl (by (try simp only [List.map_toArray, List.map_cons, List.map_nil]); first | done | rfl | (simp only [List.length_drop, List.length_take]; rfl)) ?_; (with_reducible refine (drowseref04_Split.calls k a1 t164 t165 false _ A6.out).mono ?_); rintro e w' ⟨rfl, ⟨nd, rfl⟩⟩; refine ⟨_, rfl, ?_⟩) | ((with_reducible refine gate_callee (f := 22) rfl ?_); refine goesL_ (some 38) rfl rfl Try.func22 (by kernel_rfl) rfl #[.string a0] rfl (by (try simp only [List.map_toArray, List.map_cons, List.map_nil]); first | done | rfl | (simp only [List.length_drop, List.length_take]; rfl)) ?_; (with_reducible refine (drowseref04_Split.calls k a0 t167 t168 t169 _ A10.out).mono ?_); rintro e w' ⟨rfl, ⟨nd, rfl⟩⟩; refine ⟨_, rfl, ?_⟩))
          go_ret
          exact ⟨by first | rfl | (simp; done) | (simp [*]; done), by repeat (first | exact Drawn0.refl _ | apply Drawn0.step)⟩
  · replace c4 := Bool.eq_false_iff.mpr c4
    subst c4
    have H1 : (some false) = some r := by rw [if_neg (show ¬ (false = true) by decide)] at H; exact H
    clear H
    have H := H1
    clear H1
    obtain rfl := Option.some.inj H
    go_enter Try.func15, Try.ntmps15
    go_wp2_with (first | ((with_reducible refine gate_callee (f := 23) rfl ?_); refine goesL_ (some 13) rfl rfl Try.func23 (by kernel_rfl) rfl #[.string a1] rfl (by (try simp only [List.map_toArray, List.map_cons, List.map_nil]); first | done | rfl | (simp only [List.length_drop, List.length_take]; rfl)) ?_; (with_reducible refine (drowseref04_Right.calls k a1 false _ A3.out).mono ?_); rintro e w' ⟨rfl, ⟨nd, rfl⟩⟩; refine ⟨_, rfl, ?_⟩))
    go_ret
    exact ⟨by first | rfl | (simp; done) | (simp [*]; done), by repeat (first | exact Drawn0.refl _ | apply Drawn0.step)⟩

/-! ### drowseref04_Compares: function 16 -/
def drowseref04_Compares.f (k : Nat) (a0 : ByteArray) (a1 : ByteArray) : Option (Bool) := (drowseref04_Assignable.f k a0 a1).bind fun t170 => ((drowseref04_Assignable.f k a1 a0).bind fun t171 => (if t170 = true then (some true) else (some t171)))
theorem drowseref04_Compares.mono : ∀ a0 a1 k, LeO (drowseref04_Compares.f k a0 a1) (drowseref04_Compares.f (k + 1) a0 a1) := by
  intro a0 a1 k
  unfold drowseref04_Compares.f
  repeat' first
      | (with_reducible exact drowseref04_Assignable.mono _ _ _)
      | (with_reducible exact LeO.refl _)
      | (with_reducible exact LeO.none _)
      | (with_reducible refine LeO.ite ?_ ?_)
      | (with_reducible refine LeO.bind ?_ (fun _ => ?_))
      | exact drowseref04_Assignable.mono _ _ _
      | exact LeO.none _
      | refine LeO.ite ?_ ?_
      | refine LeO.bind ?_ (fun _ => ?_)
set_option maxHeartbeats 8000000 in
set_option maxRecDepth 100000 in
theorem drowseref04_Compares.calls (k : Nat) (a0 : ByteArray) (a1 : ByteArray) (r : Bool) (w : World) (h : drowseref04_Compares.f k a0 a1 = some r) :
    Calls Try.prog 16 #[.string a0, .string a1] w fun e w' => e = .returned (.bool r) ∧ Drawn0 w w' := by
  have H : ((drowseref04_Assignable.f k a0 a1).bind fun t170 => ((drowseref04_Assignable.f k a1 a0).bind fun t171 => (if t170 = true then (some true) else (some t171)))) = some r := h
  clear h
  replace H := Option.bind_eq_some_iff.mp H
  obtain ⟨t170, A30, H⟩ := H
  replace H : ((drowseref04_Assignable.f k a1 a0).bind fun t171 => (if t170 = true then (some true) else (some t171))) = some r := H
  have A3 := Aside0.mk A30
  clear A30
  replace H := Option.bind_eq_some_iff.mp H
  obtain ⟨t171, A40, H⟩ := H
  replace H : (if t170 = true then (some true) else (some t171)) = some r := H
  have A4 := Aside0.mk A40
  clear A40
  by_cases c5 : t170 = true
  · subst c5
    have H1 : (some true) = some r := by rw [if_pos rfl] at H; exact H
    clear H
    have H := H1
    clear H1
    obtain rfl := Option.some.inj H
    go_enter Try.func16, Try.ntmps16
    go_wp2_with (first | ((with_reducible refine gate_callee (f := 15) rfl ?_); refine goesL_ (some 9) rfl rfl Try.func15 (by kernel_rfl) rfl #[.string a0, .string a1] rfl (by (try simp only [List.map_toArray, List.map_cons, List.map_nil]); first | done | rfl | (simp only [List.length_drop, List.length_take]; rfl)) ?_; (with_reducible refine (drowseref04_Assignable.calls k a0 a1 true _ A3.out).mono ?_); rintro e w' ⟨rfl, ⟨nd, rfl⟩⟩; refine ⟨_, rfl, ?_⟩) | ((with_reducible refine gate_callee (f := 15) rfl ?_); refine goesL_ (some 12) rfl rfl Try.func15 (by kernel_rfl) rfl #[.string a1, .string a0] rfl (by (try simp only [List.map_toArray, List.map_cons, List.map_nil]); first | done | rfl | (simp only [List.length_drop, List.length_take]; rfl)) ?_; (with_reducible refine (drowseref04_Assignable.calls k a1 a0 t171 _ A4.out).mono ?_); rintro e w' ⟨rfl, ⟨nd, rfl⟩⟩; refine ⟨_, rfl, ?_⟩))
    go_ret
    exact ⟨by first | rfl | (simp; done) | (simp [*]; done), by repeat (first | exact Drawn0.refl _ | apply Drawn0.step)⟩
  · replace c5 := Bool.eq_false_iff.mpr c5
    subst c5
    have H1 : (some t171) = some r := by rw [if_neg (show ¬ (false = true) by decide)] at H; exact H
    clear H
    have H := H1
    clear H1
    obtain rfl := Option.some.inj H
    go_enter Try.func16, Try.ntmps16
    go_wp2_with (first | ((with_reducible refine gate_callee (f := 15) rfl ?_); refine goesL_ (some 9) rfl rfl Try.func15 (by kernel_rfl) rfl #[.string a0, .string a1] rfl (by (try simp only [List.map_toArray, List.map_cons, List.map_nil]); first | done | rfl | (simp only [List.length_drop, List.length_take]; rfl)) ?_; (with_reducible refine (drowseref04_Assignable.calls k a0 a1 false _ A3.out).mono ?_); rintro e w' ⟨rfl, ⟨nd, rfl⟩⟩; refine ⟨_, rfl, ?_⟩) | ((with_reducible refine gate_callee (f := 15) rfl ?_); refine goesL_ (some 12) rfl rfl Try.func15 (by kernel_rfl) rfl #[.string a1, .string a0] rfl (by (try simp only [List.map_toArray, List.map_cons, List.map_nil]); first | done | rfl | (simp only [List.length_drop, List.length_take]; rfl)) ?_; (with_reducible refine (drowseref04_Assignable.calls k a1 a0 t171 _ A4.out).mono ?_); rintro e w' ⟨rfl, ⟨nd, rfl⟩⟩; refine ⟨_, rfl, ?_⟩))
    go_ret
    exact ⟨by first | rfl | (simp; done) | (simp [*]; done), by repeat (first | exact Drawn0.refl _ | apply Drawn0.step)⟩

/-! ### drowselaw04_TypesAssigns: function 3 -/
def drowselaw04_TypesAssigns.j0 : Nat → ByteArray → ByteArray → Bool → Bool → Bool → Bool → Option (Bool)
  | 0, _, _, _, _, _, _ => none
  | k + 1, x0, x1, x7, x8, x9, x32 => if x32 = true then (some false) else ((drowseref04_Assignable.f k x0 x1).bind fun t179 => (if (x7 == t179) = true then ((drowseref04_Assignable.f k x1 x0).bind fun t180 => (if (x8 == t180) = true then ((drowseref04_Compares.f k x0 x1).bind fun t181 => (some (x9 == t181))) else (some false))) else (some false)))
def drowselaw04_TypesAssigns.f (k : Nat) (a0 : ByteArray) (a1 : ByteArray) : Option (Bool) := (types_Sends.f k a0).bind fun t172 => ((types_Receives.f k a0).bind fun t173 => ((types_Assignable.f k a0 a1).bind fun t174 => ((types_Assignable.f k a1 a0).bind fun t175 => ((types_Compares.f k a0 a1).bind fun t176 => ((drowseref04_Sends.f k a0).bind fun t177 => (if (t172 != t177) = true then (drowselaw04_TypesAssigns.j0 k a0 a1 t174 t175 t176 true) else ((drowseref04_Receives.f k a0).bind fun t178 => (drowselaw04_TypesAssigns.j0 k a0 a1 t174 t175 t176 (t173 != t178)))))))))
theorem drowselaw04_TypesAssigns.mono_l : ∀ k, (∀ y0 y1 y2 y3 y4 y5, LeO (drowselaw04_TypesAssigns.j0 k y0 y1 y2 y3 y4 y5) (drowselaw04_TypesAssigns.j0 (k + 1) y0 y1 y2 y3 y4 y5))
  | 0 => fun _ _ _ _ _ _ r h => by simp [drowselaw04_TypesAssigns.j0] at h
  | k + 1 => by
    have ih0 := drowselaw04_TypesAssigns.mono_l k
    · intro y0 y1 y2 y3 y4 y5
      unfold drowselaw04_TypesAssigns.j0
      repeat' first
      | (with_reducible exact ih0 _ _ _ _ _ _)
      | (with_reducible exact drowseref04_Assignable.mono _ _ _)
      | (with_reducible exact drowseref04_Compares.mono _ _ _)
      | (with_reducible exact drowseref04_Receives.mono _ _)
      | (with_reducible exact drowseref04_Sends.mono _ _)
      | (with_reducible exact types_Assignable.mono _ _ _)
      | (with_reducible exact types_Compares.mono _ _ _)
      | (with_reducible exact types_Receives.mono _ _)
      | (with_reducible exact types_Sends.mono _ _)
      | (with_reducible exact LeO.refl _)
      | (with_reducible exact LeO.none _)
      | (with_reducible refine LeO.ite ?_ ?_)
      | (with_reducible refine LeO.bind ?_ (fun _ => ?_))
      | exact ih0 _ _ _ _ _ _
      | exact drowseref04_Assignable.mono _ _ _
      | exact drowseref04_Compares.mono _ _ _
      | exact drowseref04_Receives.mono _ _
      | exact drowseref04_Sends.mono _ _
      | exact types_Assignable.mono _ _ _
      | exact types_Compares.mono _ _ _
      | exact types_Receives.mono _ _
      | exact types_Sends.mono _ _
      | exact LeO.none _
      | refine LeO.ite ?_ ?_
      | refine LeO.bind ?_ (fun _ => ?_)
theorem drowselaw04_TypesAssigns.mono : ∀ a0 a1 k, LeO (drowselaw04_TypesAssigns.f k a0 a1) (drowselaw04_TypesAssigns.f (k + 1) a0 a1) := by
  intro a0 a1 k
  have ih0 := drowselaw04_TypesAssigns.mono_l k
  unfold drowselaw04_TypesAssigns.f
  repeat' first
      | (with_reducible exact ih0 _ _ _ _ _ _)
      | (with_reducible exact drowseref04_Assignable.mono _ _ _)
      | (with_reducible exact drowseref04_Compares.mono _ _ _)
      | (with_reducible exact drowseref04_Receives.mono _ _)
      | (with_reducible exact drowseref04_Sends.mono _ _)
      | (with_reducible exact types_Assignable.mono _ _ _)
      | (with_reducible exact types_Compares.mono _ _ _)
      | (with_reducible exact types_Receives.mono _ _)
      | (with_reducible exact types_Sends.mono _ _)
      | (with_reducible exact LeO.refl _)
      | (with_reducible exact LeO.none _)
      | (with_reducible refine LeO.ite ?_ ?_)
      | (with_reducible refine LeO.bind ?_ (fun _ => ?_))
      | exact ih0 _ _ _ _ _ _
      | exact drowseref04_Assignable.mono _ _ _
      | exact drowseref04_Compares.mono _ _ _
      | exact drowseref04_Receives.mono _ _
      | exact drowseref04_Sends.mono _ _
      | exact types_Assignable.mono _ _ _
      | exact types_Compares.mono _ _ _
      | exact types_Receives.mono _ _
      | exact types_Sends.mono _ _
      | exact LeO.none _
      | refine LeO.ite ?_ ?_
      | refine LeO.bind ?_ (fun _ => ?_)
set_option maxHeartbeats 8000000 in
set_option maxRecDepth 100000 in
theorem drowselaw04_TypesAssigns.calls (k : Nat) (a0 : ByteArray) (a1 : ByteArray) (r : Bool) (w : World) (h : drowselaw04_TypesAssigns.f k a0 a1 = some r) :
    Calls Try.prog 3 #[.string a0, .string a1] w fun e w' => e = .returned (.bool r) ∧ Drawn0 w w' := by
  have H : ((types_Sends.f k a0).bind fun t172 => ((types_Receives.f k a0).bind fun t173 => ((types_Assignable.f k a0 a1).bind fun t174 => ((types_Assignable.f k a1 a0).bind fun t175 => ((types_Compares.f k a0 a1).bind fun t176 => ((drowseref04_Sends.f k a0).bind fun t177 => (if (t172 != t177) = true then (drowselaw04_TypesAssigns.j0 k a0 a1 t174 t175 t176 true) else ((drowseref04_Receives.f k a0).bind fun t178 => (drowselaw04_TypesAssigns.j0 k a0 a1 t174 t175 t176 (t173 != t178)))))))))) = some r := h
  clear h
  replace H := Option.bind_eq_some_iff.mp H
  obtain ⟨t172, A30, H⟩ := H
  replace H : ((types_Receives.f k a0).bind fun t173 => ((types_Assignable.f k a0 a1).bind fun t174 => ((types_Assignable.f k a1 a0).bind fun t175 => ((types_Compares.f k a0 a1).bind fun t176 => ((drowseref04_Sends.f k a0).bind fun t177 => (if (t172 != t177) = true then (drowselaw04_TypesAssigns.j0 k a0 a1 t174 t175 t176 true) else ((drowseref04_Receives.f k a0).bind fun t178 => (drowselaw04_TypesAssigns.j0 k a0 a1 t174 t175 t176 (t173 != t178))))))))) = some r := H
  have A3 := Aside0.mk A30
  clear A30
  replace H := Option.bind_eq_some_iff.mp H
  obtain ⟨t173, A40, H⟩ := H
  replace H : ((types_Assignable.f k a0 a1).bind fun t174 => ((types_Assignable.f k a1 a0).bind fun t175 => ((types_Compares.f k a0 a1).bind fun t176 => ((drowseref04_Sends.f k a0).bind fun t177 => (if (t172 != t177) = true then (drowselaw04_TypesAssigns.j0 k a0 a1 t174 t175 t176 true) else ((drowseref04_Receives.f k a0).bind fun t178 => (drowselaw04_TypesAssigns.j0 k a0 a1 t174 t175 t176 (t173 != t178)))))))) = some r := H
  have A4 := Aside0.mk A40
  clear A40
  replace H := Option.bind_eq_some_iff.mp H
  obtain ⟨t174, A50, H⟩ := H
  replace H : ((types_Assignable.f k a1 a0).bind fun t175 => ((types_Compares.f k a0 a1).bind fun t176 => ((drowseref04_Sends.f k a0).bind fun t177 => (if (t172 != t177) = true then (drowselaw04_TypesAssigns.j0 k a0 a1 t174 t175 t176 true) else ((drowseref04_Receives.f k a0).bind fun t178 => (drowselaw04_TypesAssigns.j0 k a0 a1 t174 t175 t176 (t173 != t178))))))) = some r := H
  have A5 := Aside0.mk A50
  clear A50
  replace H := Option.bind_eq_some_iff.mp H
  obtain ⟨t175, A60, H⟩ := H
  replace H : ((types_Compares.f k a0 a1).bind fun t176 => ((drowseref04_Sends.f k a0).bind fun t177 => (if (t172 != t177) = true then (drowselaw04_TypesAssigns.j0 k a0 a1 t174 t175 t176 true) else ((drowseref04_Receives.f k a0).bind fun t178 => (drowselaw04_TypesAssigns.j0 k a0 a1 t174 t175 t176 (t173 != t178)))))) = some r := H
  have A6 := Aside0.mk A60
  clear A60
  replace H := Option.bind_eq_some_iff.mp H
  obtain ⟨t176, A70, H⟩ := H
  replace H : ((drowseref04_Sends.f k a0).bind fun t177 => (if (t172 != t177) = true then (drowselaw04_TypesAssigns.j0 k a0 a1 t174 t175 t176 true) else ((drowseref04_Receives.f k a0).bind fun t178 => (drowselaw04_TypesAssigns.j0 k a0 a1 t174 t175 t176 (t173 != t178))))) = some r := H
  have A7 := Aside0.mk A70
  clear A70
  have HC8 := Aside0.mk H
  clear H
  go_enter Try.func3, Try.ntmps3
  go_upto_region 6 with (first | ((with_reducible refine gate_callee (f := 9) rfl ?_); refine goesL_ (some 11) rfl rfl Try.func9 (by kernel_rfl) rfl #[.string a0] rfl (by (try simp only [List.map_toArray, List.map_cons, List.map_nil]); first | done | rfl | (simp only [List.length_drop, List.length_take]; rfl)) ?_; (with_reducible refine (types_Sends.calls k a0 t172 _ A3.out).mono ?_); rintro e w' ⟨rfl, ⟨nd, rfl⟩⟩; refine ⟨_, rfl, ?_⟩) | ((with_reducible refine gate_callee (f := 10) rfl ?_); refine goesL_ (some 13) rfl rfl Try.func10 (by kernel_rfl) rfl #[.string a0] rfl (by (try simp only [List.map_toArray, List.map_cons, List.map_nil]); first | done | rfl | (simp only [List.length_drop, List.length_take]; rfl)) ?_; (with_reducible refine (types_Receives.calls k a0 t173 _ A4.out).mono ?_); rintro e w' ⟨rfl, ⟨nd, rfl⟩⟩; refine ⟨_, rfl, ?_⟩) | ((with_reducible refine gate_callee (f := 11) rfl ?_); refine goesL_ (some 16) rfl rfl Try.func11 (by kernel_rfl) rfl #[.string a0, .string a1] rfl (by (try simp only [List.map_toArray, List.map_cons, List.map_nil]); first | done | rfl | (simp only [List.length_drop, List.length_take]; rfl)) ?_; (with_reducible refine (types_Assignable.calls k a0 a1 t174 _ A5.out).mono ?_); rintro e w' ⟨rfl, ⟨nd, rfl⟩⟩; refine ⟨_, rfl, ?_⟩) | ((with_reducible refine gate_callee (f := 11) rfl ?_); refine goesL_ (some 19) rfl rfl Try.func11 (by kernel_rfl) rfl #[.string a1, .string a0] rfl (by (try simp only [List.map_toArray, List.map_cons, List.map_nil]); first | done | rfl | (simp only [List.length_drop, List.length_take]; rfl)) ?_; (with_reducible refine (types_Assignable.calls k a1 a0 t175 _ A6.out).mono ?_); rintro e w' ⟨rfl, ⟨nd, rfl⟩⟩; refine ⟨_, rfl, ?_⟩) | ((with_reducible refine gate_callee (f := 12) rfl ?_); refine goesL_ (some 22) rfl rfl Try.func12 (by kernel_rfl) rfl #[.string a0, .string a1] rfl (by (try simp only [List.map_toArray, List.map_cons, List.map_nil]); first | done | rfl | (simp only [List.length_drop, List.length_take]; rfl)) ?_; (with_reducible refine (types_Compares.calls k a0 a1 t176 _ A7.out).mono ?_); rintro e w' ⟨rfl, ⟨nd, rfl⟩⟩; refine ⟨_, rfl, ?_⟩))
  (try simp only [Act.put, List.setIfInBounds_toArray, List.set_cons_zero, List.set_cons_succ])
  go_cut [32] (fun v32 wc => ∃ (kq : Nat) (x32_7 : Bool), v32 = .bool x32_7 ∧ Aside0 (drowselaw04_TypesAssigns.j0 kq a0 a1 t174 t175 t176 x32_7 = some r) ∧ Aside0 (kq ≤ k) ∧ Drawn0 w wc)
  case first =>
    have H := HC8.out
    clear HC8
    replace H := Option.bind_eq_some_iff.mp H
    obtain ⟨t177, A90, H⟩ := H
    replace H : (if (t172 != t177) = true then (drowselaw04_TypesAssigns.j0 k a0 a1 t174 t175 t176 true) else ((drowseref04_Receives.f k a0).bind fun t178 => (drowselaw04_TypesAssigns.j0 k a0 a1 t174 t175 t176 (t173 != t178)))) = some r := H
    have A9 := Aside0.mk A90
    clear A90
    by_cases c10 : (t172 != t177) = true
    · rw [if_pos c10] at H
      have c10b0 : (t172 != t177) = true := c10
      (try (have c10b1 : decide (t172 = t177) = false := by simpa using c10))
      (try (have c10b2 : (t172 == t177) = false := by simpa using c10))
      (try (have c10b3 : ¬ (t172 = t177) := by simpa using c10))
      clear c10
      (first | rw [c10b0] | (simp only [i64_w, i32_w]; rw [c10b0]) | skip)
      have H' := Aside0.mk H
      clear H
      go_wp2_with (first | ((with_reducible refine gate_callee (f := 13) rfl ?_); refine goesL_ (some 25) rfl rfl Try.func13 (by kernel_rfl) rfl #[.string a0] rfl (by (try simp only [List.map_toArray, List.map_cons, List.map_nil]); first | done | rfl | (simp only [List.length_drop, List.length_take]; rfl)) ?_; (with_reducible refine (drowseref04_Sends.calls k a0 t177 _ A9.out).mono ?_); rintro e w' ⟨rfl, ⟨nd, rfl⟩⟩; refine ⟨_, rfl, ?_⟩))
      go_meet
      case rel => exact ⟨_, (true), (by first | rfl | (simp; done) | (simp [*]; done)), H', ⟨by first | omega | exact Nat.le_refl _⟩, by repeat (first | exact Drawn0.refl _ | apply Drawn0.step)⟩
    · rw [if_neg c10] at H
      have c10b0 : (t172 != t177) = false := by simpa using c10
      (try (have c10b1 : decide (t172 = t177) = true := by simpa using c10))
      (try (have c10b2 : (t172 == t177) = true := by simpa using c10))
      clear c10
      (first | rw [c10b0] | (simp only [i64_w, i32_w]; rw [c10b0]) | skip)
      replace H := Option.bind_eq_some_iff.mp H
      obtain ⟨t178, A110, H⟩ := H
      replace H : (drowselaw04_TypesAssigns.j0 k a0 a1 t174 t175 t176 (t173 != t178)) = some r := H
      have A11 := Aside0.mk A110
      clear A110
      have H' := Aside0.mk H
      clear H
      go_wp2_with (first | ((with_reducible refine gate_callee (f := 13) rfl ?_); refine goesL_ (some 25) rfl rfl Try.func13 (by kernel_rfl) rfl #[.string a0] rfl (by (try simp only [List.map_toArray, List.map_cons, List.map_nil]); first | done | rfl | (simp only [List.length_drop, List.length_take]; rfl)) ?_; (with_reducible refine (drowseref04_Sends.calls k a0 t177 _ A9.out).mono ?_); rintro e w' ⟨rfl, ⟨nd, rfl⟩⟩; refine ⟨_, rfl, ?_⟩) | (go_at_call 14; (with_reducible refine (drowseref04_Receives.calls k a0 t178 _ A11.out).mono ?_); rintro e w' ⟨rfl, ⟨nd, rfl⟩⟩))
      go_meet
      case rel => exact ⟨_, ((t173 != t178)), (by first | rfl | (simp; done) | (simp [*]; done)), H', ⟨by first | omega | exact Nat.le_refl _⟩, by repeat (first | exact Drawn0.refl _ | apply Drawn0.step)⟩
  case rest =>
    clear HC8
    try clear c1
    try clear p2
    try clear c3
    try clear c9
    try clear c10
    try clear c10b0
    try clear c10b1
    try clear c10b2
    try clear c11
    obtain ⟨kq, x32_7, rfl, HA, HJ7, ⟨mc7, rfl⟩⟩ := hcut
    cases kq with
    | zero => exact absurd HA.out (by simp [drowselaw04_TypesAssigns.j0])
    | succ kj7 =>
      have H := HA.out
      clear HA
      simp only [drowselaw04_TypesAssigns.j0] at H
      by_cases c12 : x32_7 = true
      · subst c12
        have H1 : (some false) = some r := by rw [if_pos rfl] at H; exact H
        clear H
        have H := H1
        clear H1
        obtain rfl := Option.some.inj H
        go_wp2
        go_ret
        exact ⟨by first | rfl | (simp; done) | (simp [*]; done), by repeat (first | exact Drawn0.refl _ | apply Drawn0.step)⟩
      · replace c12 := Bool.eq_false_iff.mpr c12
        subst c12
        have H1 : ((drowseref04_Assignable.f kj7 a0 a1).bind fun t179 => (if (t174 == t179) = true then ((drowseref04_Assignable.f kj7 a1 a0).bind fun t180 => (if (t175 == t180) = true then ((drowseref04_Compares.f kj7 a0 a1).bind fun t181 => (some (t176 == t181))) else (some false))) else (some false))) = some r := by rw [if_neg (show ¬ (false = true) by decide)] at H; exact H
        clear H
        have H := H1
        clear H1
        replace H := Option.bind_eq_some_iff.mp H
        obtain ⟨t179, A130, H⟩ := H
        replace H : (if (t174 == t179) = true then ((drowseref04_Assignable.f kj7 a1 a0).bind fun t180 => (if (t175 == t180) = true then ((drowseref04_Compares.f kj7 a0 a1).bind fun t181 => (some (t176 == t181))) else (some false))) else (some false)) = some r := H
        have A13 := Aside0.mk A130
        clear A130
        by_cases c14 : (t174 == t179) = true
        · rw [if_pos c14] at H
          have c14b0 : (t174 == t179) = true := c14
          (try (have c14b1 : decide (t174 = t179) = true := by simpa using c14))
          (try (have c14b2 : (t174 == t179) = true := by simpa using c14))
          clear c14
          replace H := Option.bind_eq_some_iff.mp H
          obtain ⟨t180, A150, H⟩ := H
          replace H : (if (t175 == t180) = true then ((drowseref04_Compares.f kj7 a0 a1).bind fun t181 => (some (t176 == t181))) else (some false)) = some r := H
          have A15 := Aside0.mk A150
          clear A150
          by_cases c16 : (t175 == t180) = true
          · rw [if_pos c16] at H
            have c16b0 : (t175 == t180) = true := c16
            (try (have c16b1 : decide (t175 = t180) = true := by simpa using c16))
            (try (have c16b2 : (t175 == t180) = true := by simpa using c16))
            clear c16
            replace H := Option.bind_eq_some_iff.mp H
            obtain ⟨t181, A170, H⟩ := H
            replace H : (some (t176 == t181)) = some r := H
            have A17 := Aside0.mk A170
            clear A170
            obtain rfl := Option.some.inj H
            go_wp2_with (first | ((with_reducible refine gate_callee (f := 15) rfl ?_); refine goesL_ (some 36) rfl rfl Try.func15 (by kernel_rfl) rfl #[.string a0, .string a1] rfl (by (try simp only [List.map_toArray, List.map_cons, List.map_nil]); first | done | rfl | (simp only [List.length_drop, List.length_take]; rfl)) ?_; (with_reducible refine (drowseref04_Assignable.calls kj7 a0 a1 t179 _ A13.out).mono ?_); rintro e w' ⟨rfl, ⟨nd, rfl⟩⟩; refine ⟨_, rfl, ?_⟩) | (go_at_call 15; (with_reducible refine (drowseref04_Assignable.calls kj7 a1 a0 t180 _ A15.out).mono ?_); rintro e w' ⟨rfl, ⟨nd, rfl⟩⟩) | (go_at_call 16; (with_reducible refine (drowseref04_Compares.calls kj7 a0 a1 t181 _ A17.out).mono ?_); rintro e w' ⟨rfl, ⟨nd, rfl⟩⟩))
            go_ret
            exact ⟨by first | rfl | (simp; done) | (simp [*]; done), by repeat (first | exact Drawn0.refl _ | apply Drawn0.step)⟩
          · rw [if_neg c16] at H
            have c16b0 : (t175 == t180) = false := by simpa using c16
            (try (have c16b1 : decide (t175 = t180) = false := by simpa using c16))
            (try (have c16b2 : (t175 == t180) = false := by simpa using c16))
            (try (have c16b3 : ¬ (t175 = t180) := by simpa using c16))
            clear c16
            obtain rfl := Option.some.inj H
            go_wp2_with (first | ((with_reducible refine gate_callee (f := 15) rfl ?_); refine goesL_ (some 36) rfl rfl Try.func15 (by kernel_rfl) rfl #[.string a0, .string a1] rfl (by (try simp only [List.map_toArray, List.map_cons, List.map_nil]); first | done | rfl | (simp only [List.length_drop, List.length_take]; rfl)) ?_; (with_reducible refine (drowseref04_Assignable.calls kj7 a0 a1 t179 _ A13.out).mono ?_); rintro e w' ⟨rfl, ⟨nd, rfl⟩⟩; refine ⟨_, rfl, ?_⟩) | (go_at_call 15; (with_reducible refine (drowseref04_Assignable.calls kj7 a1 a0 t180 _ A15.out).mono ?_); rintro e w' ⟨rfl, ⟨nd, rfl⟩⟩))
            go_ret
            exact ⟨by first | rfl | (simp; done) | (simp [*]; done), by repeat (first | exact Drawn0.refl _ | apply Drawn0.step)⟩
        · rw [if_neg c14] at H
          have c14b0 : (t174 == t179) = false := by simpa using c14
          (try (have c14b1 : decide (t174 = t179) = false := by simpa using c14))
          (try (have c14b2 : (t174 == t179) = false := by simpa using c14))
          (try (have c14b3 : ¬ (t174 = t179) := by simpa using c14))
          clear c14
          obtain rfl := Option.some.inj H
          go_wp2_with (first | ((with_reducible refine gate_callee (f := 15) rfl ?_); refine goesL_ (some 36) rfl rfl Try.func15 (by kernel_rfl) rfl #[.string a0, .string a1] rfl (by (try simp only [List.map_toArray, List.map_cons, List.map_nil]); first | done | rfl | (simp only [List.length_drop, List.length_take]; rfl)) ?_; (with_reducible refine (drowseref04_Assignable.calls kj7 a0 a1 t179 _ A13.out).mono ?_); rintro e w' ⟨rfl, ⟨nd, rfl⟩⟩; refine ⟨_, rfl, ?_⟩))
          go_ret
          exact ⟨by first | rfl | (simp; done) | (simp [*]; done), by repeat (first | exact Drawn0.refl _ | apply Drawn0.step)⟩

/-- THE ONE PURE STATEMENT of drowselaw04_TypesAssigns: yours. -/
def drowselaw04_TypesAssigns.Pure : Prop := ∀ (a0 : ByteArray) (a1 : ByteArray), a0.size ≤ 140737488351232 → a1.size ≤ 140737488351232 → ∃ k, drowselaw04_TypesAssigns.f k a0 a1 = some true
theorem drowselaw04_TypesAssigns.walk (P : drowselaw04_TypesAssigns.Pure) (a0 : ByteArray) (a1 : ByteArray) (w : World) (w0 : a0.size ≤ 140737488351232) (w1 : a1.size ≤ 140737488351232) :
    Calls Try.prog 3 #[.string a0, .string a1] w fun e w' => e = .returned (.bool true) ∧ Below w.heap.size w w' := by
  obtain ⟨k, h⟩ := P a0 a1 w0 w1
  refine (drowselaw04_TypesAssigns.calls k a0 a1 true w h).mono ?_
  rintro e w' ⟨rfl, hd⟩
  exact ⟨rfl, hd.below⟩

end Go.Proofs.Ytddagoihchlihaa.PTypesAssigns
