/-
  Functions of the statement TypesAssigns, each as a Lean function with its contract (part 2).
-/
import Derived.Test.YtddagoihchlihaaPTypesAssignsx0
import Derived.Test.YtddagoihchlihaaPTypesAssignsx1
namespace Go.Proofs.Ytddagoihchlihaa.PTypesAssigns
open Go.RowKit Go.Proofs.YtddagoihchlihaaW.PrintWords Go.Proofs.YtddagoihchlihaaW.PrintLast Go.Proofs.YtddagoihchlihaaW.PrintMore
attribute [local go_sem] max2_int min2_int max_two min_two max_three min_three max_four min_four   -- for this text's walks alone
set_option linter.unusedVariables false
set_option linter.unusedSimpArgs false

/-! ### types_Assignable: function 11 -/
def types_Assignable.f (k : Nat) (a0 : ByteArray) (a1 : ByteArray) : Option (Bool) := (types_Right.f k a1).bind fun t135 => (if t135 = true then ((types_Split.f k a1).bind fun bt136 => (if a0.toList = a1.toList then (some true) else (if a0.toList = ([110, 105, 108] : List UInt8) then (if bt136.2.2 = true then (some true) else (if a1.toList = ([77, 117, 116, 101, 120] : List UInt8) then (some true) else (some (a1.toList == ([87, 97, 105, 116, 71, 114, 111, 117, 112] : List UInt8))))) else ((types_Split.f k a0).bind fun bt139 => (if bt136.2.2 = true then (if bt139.2.2 = true then (if bt139.1 = 0 then (if bt136.1 = 0 then (some false) else (some (bt139.2.1.toList == bt136.2.1.toList))) else (some false)) else (some false)) else (some false)))))) else (some false))
theorem types_Assignable.mono : ∀ a0 a1 k, LeO (types_Assignable.f k a0 a1) (types_Assignable.f (k + 1) a0 a1) := by
  intro a0 a1 k
  unfold types_Assignable.f
  repeat' first
      | (with_reducible exact types_Right.mono _ _)
      | (with_reducible exact types_Split.mono _ _)
      | (with_reducible exact LeO.refl _)
      | (with_reducible exact LeO.none _)
      | (with_reducible refine LeO.ite ?_ ?_)
      | (with_reducible refine LeO.bind ?_ (fun _ => ?_))
      | exact types_Right.mono _ _
      | exact types_Split.mono _ _
      | exact LeO.none _
      | refine LeO.ite ?_ ?_
      | refine LeO.bind ?_ (fun _ => ?_)
set_option maxHeartbeats 8000000 in
set_option maxRecDepth 100000 in
theorem types_Assignable.calls (k : Nat) (a0 : ByteArray) (a1 : ByteArray) (r : Bool) (w : World) (h : types_Assignable.f k a0 a1 = some r) :
    Calls Try.prog 11 #[.string a0, .string a1] w fun e w' => e = .returned (.bool r) ∧ Drawn0 w w' := by
  have H : ((types_Right.f k a1).bind fun t135 => (if t135 = true then ((types_Split.f k a1).bind fun bt136 => (if a0.toList = a1.toList then (some true) else (if a0.toList = ([110, 105, 108] : List UInt8) then (if bt136.2.2 = true then (some true) else (if a1.toList = ([77, 117, 116, 101, 120] : List UInt8) then (some true) else (some (a1.toList == ([87, 97, 105, 116, 71, 114, 111, 117, 112] : List UInt8))))) else ((types_Split.f k a0).bind fun bt139 => (if bt136.2.2 = true then (if bt139.2.2 = true then (if bt139.1 = 0 then (if bt136.1 = 0 then (some false) else (some (bt139.2.1.toList == bt136.2.1.toList))) else (some false)) else (some false)) else (some false)))))) else (some false))) = some r := h
  clear h
  replace H := Option.bind_eq_some_iff.mp H
  obtain ⟨t135, A30, H⟩ := H
  replace H : (if t135 = true then ((types_Split.f k a1).bind fun bt136 => (if a0.toList = a1.toList then (some true) else (if a0.toList = ([110, 105, 108] : List UInt8) then (if bt136.2.2 = true then (some true) else (if a1.toList = ([77, 117, 116, 101, 120] : List UInt8) then (some true) else (some (a1.toList == ([87, 97, 105, 116, 71, 114, 111, 117, 112] : List UInt8))))) else ((types_Split.f k a0).bind fun bt139 => (if bt136.2.2 = true then (if bt139.2.2 = true then (if bt139.1 = 0 then (if bt136.1 = 0 then (some false) else (some (bt139.2.1.toList == bt136.2.1.toList))) else (some false)) else (some false)) else (some false)))))) else (some false)) = some r := H
  have A3 := Aside0.mk A30
  clear A30
  by_cases c4 : t135 = true
  · subst c4
    have H1 : ((types_Split.f k a1).bind fun bt136 => (if a0.toList = a1.toList then (some true) else (if a0.toList = ([110, 105, 108] : List UInt8) then (if bt136.2.2 = true then (some true) else (if a1.toList = ([77, 117, 116, 101, 120] : List UInt8) then (some true) else (some (a1.toList == ([87, 97, 105, 116, 71, 114, 111, 117, 112] : List UInt8))))) else ((types_Split.f k a0).bind fun bt139 => (if bt136.2.2 = true then (if bt139.2.2 = true then (if bt139.1 = 0 then (if bt136.1 = 0 then (some false) else (some (bt139.2.1.toList == bt136.2.1.toList))) else (some false)) else (some false)) else (some false)))))) = some r := by rw [if_pos rfl] at H; exact H
    clear H
    have H := H1
    clear H1
    replace H := Option.bind_eq_some_iff.mp H
    obtain ⟨⟨t136, t137, t138⟩, A50, H⟩ := H
    replace H : (if a0.toList = a1.toList then (some true) else (if a0.toList = ([110, 105, 108] : List UInt8) then (if t138 = true then (some true) else (if a1.toList = ([77, 117, 116, 101, 120] : List UInt8) then (some true) else (some (a1.toList == ([87, 97, 105, 116, 71, 114, 111, 117, 112] : List UInt8))))) else ((types_Split.f k a0).bind fun bt139 => (if t138 = true then (if bt139.2.2 = true then (if bt139.1 = 0 then (if t136 = 0 then (some false) else (some (bt139.2.1.toList == t137.toList))) else (some false)) else (some false)) else (some false))))) = some r := H
    have A5 := Aside0.mk A50
    clear A50
    by_cases c6 : a0.toList = a1.toList
    · rw [if_pos c6] at H
      have c6b0 : (a0.toList == a1.toList) = true := beq_iff_eq.mpr c6
      have c6b1 : (a0.toList != a1.toList) = false := bne_eq_false_iff_eq.mpr c6
      clear c6
      obtain rfl := Option.some.inj H
      go_enter Try.func11, Try.ntmps11
      go_wp2_with (first | ((with_reducible refine gate_callee (f := 17) rfl ?_); refine goesL_ (some 12) rfl rfl Try.func17 (by kernel_rfl) rfl #[.string a1] rfl (by (try simp only [List.map_toArray, List.map_cons, List.map_nil]); first | done | rfl | (simp only [List.length_drop, List.length_take]; rfl)) ?_; (with_reducible refine (types_Right.calls k a1 true _ A3.out).mono ?_); rintro e w' ⟨rfl, ⟨nd, rfl⟩⟩; refine ⟨_, rfl, ?_⟩) | ((with_reducible refine gate_callee (f := 20) rfl ?_); refine goesL_ (some 16) rfl rfl Try.func20 (by kernel_rfl) rfl #[.string a1] rfl (by (try simp only [List.map_toArray, List.map_cons, List.map_nil]); first | done | rfl | (simp only [List.length_drop, List.length_take]; rfl)) ?_; (with_reducible refine (types_Split.calls k a1 t136 t137 t138 _ A5.out).mono ?_); rintro e w' ⟨rfl, ⟨nd, rfl⟩⟩; refine ⟨_, rfl, ?_⟩))
      go_ret
      exact ⟨by first | rfl | (simp; done) | (simp [*]; done), by repeat (first | exact Drawn0.refl _ | apply Drawn0.step)⟩
    · rw [if_neg c6] at H
      have c6b0 : (a0.toList == a1.toList) = false := beq_eq_false_iff_ne.mpr c6
      have c6b1 : (a0.toList != a1.toList) = true := bne_iff_ne.mpr c6
      by_cases c7 : a0.toList = ([110, 105, 108] : List UInt8)
      · rw [if_pos c7] at H
        have c7b0 : (a0.toList == ([110, 105, 108] : List UInt8)) = true := beq_iff_eq.mpr c7
        have c7b1 : (a0.toList != ([110, 105, 108] : List UInt8)) = false := bne_eq_false_iff_eq.mpr c7
        clear c7
        by_cases c8 : t138 = true
        · subst c8
          have H1 : (some true) = some r := by rw [if_pos rfl] at H; exact H
          clear H
          have H := H1
          clear H1
          obtain rfl := Option.some.inj H
          go_enter Try.func11, Try.ntmps11
          go_wp2_with (first | ((with_reducible refine gate_callee (f := 17) rfl ?_); refine goesL_ (some 12) rfl rfl Try.func17 (by kernel_rfl) rfl #[.string a1] rfl (by (try simp only [List.map_toArray, List.map_cons, List.map_nil]); first | done | rfl | (simp only [List.length_drop, List.length_take]; rfl)) ?_; (with_reducible refine (types_Right.calls k a1 true _ A3.out).mono ?_); rintro e w' ⟨rfl, ⟨nd, rfl⟩⟩; refine ⟨_, rfl, ?_⟩) | ((with_reducible refine gate_callee (f := 20) rfl ?_); refine goesL_ (some 16) rfl rfl Try.func20 (by kernel_rfl) rfl #[.string a1] rfl (by (try simp only [List.map_toArray, List.map_cons, List.map_nil]); first | done | rfl | (simp only [List.length_drop, List.length_take]; rfl)) ?_; (with_reducible refine (types_Split.calls k a1 t136 t137 true _ A5.out).mono ?_); rintro e w' ⟨rfl, ⟨nd, rfl⟩⟩; refine ⟨_, rfl, ?_⟩))
          go_ret
          exact ⟨by first | rfl | (simp; done) | (simp [*]; done), by repeat (first | exact Drawn0.refl _ | apply Drawn0.step)⟩
        · replace c8 := Bool.eq_false_iff.mpr c8
          subst c8
          have H1 : (if a1.toList = ([77, 117, 116, 101, 120] : List UInt8) then (some true) else (some (a1.toList == ([87, 97, 105, 116, 71, 114, 111, 117, 112] : List UInt8)))) = some r := by rw [if_neg (show ¬ (false = true) by decide)] at H; exact H
          clear H
          have H := H1
          clear H1
          by_cases c9 : a1.toList = ([77, 117, 116, 101, 120] : List UInt8)
          · rw [if_pos c9] at H
            have c9b0 : (a1.toList == ([77, 117, 116, 101, 120] : List UInt8)) = true := beq_iff_eq.mpr c9
            have c9b1 : (a1.toList != ([77, 117, 116, 101, 120] : List UInt8)) = false := bne_eq_false_iff_eq.mpr c9
            clear c9
            obtain rfl := Option.some.inj H
            go_enter Try.func11, Try.ntmps11
            go_wp2_with (first | ((with_reducible refine gate_callee (f := 17) rfl ?_); refine goesL_ (some 12) rfl rfl Try.func17 (by kernel_rfl) rfl #[.string a1] rfl (by (try simp only [List.map_toArray, List.map_cons, List.map_nil]); first | done | rfl | (simp only [List.length_drop, List.length_take]; rfl)) ?_; (with_reducible refine (types_Right.calls k a1 true _ A3.out).mono ?_); rintro e w' ⟨rfl, ⟨nd, rfl⟩⟩; refine ⟨_, rfl, ?_⟩) | ((with_reducible refine gate_callee (f := 20) rfl ?_); refine goesL_ (some 16) rfl rfl Try.func20 (by kernel_rfl) rfl #[.string a1] rfl (by (try simp only [List.map_toArray, List.map_cons, List.map_nil]); first | done | rfl | (simp only [List.length_drop, List.length_take]; rfl)) ?_; (with_reducible refine (types_Split.calls k a1 t136 t137 false _ A5.out).mono ?_); rintro e w' ⟨rfl, ⟨nd, rfl⟩⟩; refine ⟨_, rfl, ?_⟩))
            go_ret
            exact ⟨by first | rfl | (simp; done) | (simp [*]; done), by repeat (first | exact Drawn0.refl _ | apply Drawn0.step)⟩
          · rw [if_neg c9] at H
            have c9b0 : (a1.toList == ([77, 117, 116, 101, 120] : List UInt8)) = false := beq_eq_false_iff_ne.mpr c9
            have c9b1 : (a1.toList != ([77, 117, 116, 101, 120] : List UInt8)) = true := bne_iff_ne.mpr c9
            obtain rfl := Option.some.inj H
            go_enter Try.func11, Try.ntmps11
            go_wp2_with (first | ((with_reducible refine gate_callee (f := 17) rfl ?_); refine goesL_ (some 12) rfl rfl Try.func17 (by kernel_rfl) rfl #[.string a1] rfl (by (try simp only [List.map_toArray, List.map_cons, List.map_nil]); first | done | rfl | (simp only [List.length_drop, List.length_take]; rfl)) ?_; (with_reducible refine (types_Right.calls k a1 true _ A3.out).mono ?_); rintro e w' ⟨rfl, ⟨nd, rfl⟩⟩; refine ⟨_, rfl, ?_⟩) | ((with_reducible refine gate_callee (f := 20) rfl ?_); refine goesL_ (some 16) rfl rfl Try.func20 (by kernel_rfl) rfl #[.string a1] rfl (by (try simp only [List.map_toArray, List.map_cons, List.map_nil]); first | done | rfl | (simp only [List.length_drop, List.length_take]; rfl)) ?_; (with_reducible refine (types_Split.calls k a1 t136 t137 false _ A5.out).mono ?_); rintro e w' ⟨rfl, ⟨nd, rfl⟩⟩; refine ⟨_, rfl, ?_⟩))
            go_ret
            exact ⟨by first | rfl | (simp; done) | (simp [*]; done), by repeat (first | exact Drawn0.refl _ | apply Drawn0.step)⟩
      · rw [if_neg c7] at H
        have c7b0 : (a0.toList == ([110, 105, 108] : List UInt8)) = false := beq_eq_false_iff_ne.mpr c7
        have c7b1 : (a0.toList != ([110, 105, 108] : List UInt8)) = true := bne_iff_ne.mpr c7
        replace H := Option.bind_eq_some_iff.mp H
        obtain ⟨⟨t139, t140, t141⟩, A100, H⟩ := H
        replace H : (if t138 = true then (if t141 = true then (if t139 = 0 then (if t136 = 0 then (some false) else (some (t140.toList == t137.toList))) else (some false)) else (some false)) else (some false)) = some r := H
        have A10 := Aside0.mk A100
        clear A100
        by_cases c11 : t138 = true
        · subst c11
          have H1 : (if t141 = true then (if t139 = 0 then (if t136 = 0 then (some false) else (some (t140.toList == t137.toList))) else (some false)) else (some false)) = some r := by rw [if_pos rfl] at H; exact H
          clear H
          have H := H1
          clear H1
          by_cases c12 : t141 = true
          · subst c12
            have H1 : (if t139 = 0 then (if t136 = 0 then (some false) else (some (t140.toList == t137.toList))) else (some false)) = some r := by rw [if_pos rfl] at H; exact H
            clear H
            have H := H1
            clear H1
            by_cases c13 : t139 = 0
            · rw [if_pos c13] at H
              have c13b0 : (t139 == 0) = true := beq_iff_eq.mpr c13
              have c13b1 : (t139 != 0) = false := bne_eq_false_iff_eq.mpr c13
              clear c13
              by_cases c14 : t136 = 0
              · rw [if_pos c14] at H
                have c14b0 : (t136 == 0) = true := beq_iff_eq.mpr c14
                have c14b1 : (t136 != 0) = false := bne_eq_false_iff_eq.mpr c14
                clear c14
                obtain rfl := Option.some.inj H
                go_enter Try.func11, Try.ntmps11
                go_wp2_with (first | ((with_reducible refine gate_callee (f := 17) rfl ?_); refine goesL_ (some 12) rfl rfl Try.func17 (by kernel_rfl) rfl #[.string a1] rfl (by (try simp only [List.map_toArray, List.map_cons, List.map_nil]); first | done | rfl | (simp only [List.length_drop, List.length_take]; rfl)) ?_; (with_reducible refine (types_Right.calls k a1 true _ A3.out).mono ?_); rintro e w' ⟨rfl, ⟨nd, rfl⟩⟩; refine ⟨_, rfl, ?_⟩) | ((with_reducible refine gate_callee (f := 20) rfl ?_); refine goesL_ (some 16) rfl rfl Try.func20 (by kernel_rfl) rfl #[.string a1] rfl (by (try simp only [List.map_toArray, List.map_cons, List.map_nil]); first | done | rfl | (simp only [List.length_drop, List.length_take]; rfl)) ?_; (with_reducible refine (types_Split.calls k a1 t136 t137 true _ A5.out).mono ?_); rintro e w' ⟨rfl, ⟨nd, rfl⟩⟩; refine ⟨_, rfl, ?_⟩) | ((with_reducible refine gate_callee (f := 20) rfl ?_); refine goesL_ (some 37) rfl rfl Try.func20 (by kernel_rfl) rfl #[.string a0] rfl (by (try simp only [List.map_toArray, List.map_cons, List.map_nil]); first | done | rfl | (simp only [List.length_drop, List.length_take]; rfl)) ?_; (with_reducible refine (types_Split.calls k a0 t139 t140 true _ A10.out).mono ?_); rintro e w' ⟨rfl, ⟨nd, rfl⟩⟩; refine ⟨_, rfl, ?_⟩))
                go_ret
                exact ⟨by first | rfl | (simp; done) | (simp [*]; done), by repeat (first | exact Drawn0.refl _ | apply Drawn0.step)⟩
              · rw [if_neg c14] at H
                have c14b0 : (t136 == 0) = false := beq_eq_false_iff_ne.mpr c14
                have c14b1 : (t136 != 0) = true := bne_iff_ne.mpr c14
                obtain rfl := Option.some.inj H
                go_enter Try.func11, Try.ntmps11
                go_wp2_with (first | ((with_reducible refine gate_callee (f := 17) rfl ?_); refine goesL_ (some 12) rfl rfl Try.func17 (by kernel_rfl) rfl #[.string a1] rfl (by (try simp only [List.map_toArray, List.map_cons, List.map_nil]); first | done | rfl | (simp only [List.length_drop, List.length_take]; rfl)) ?_; (with_reducible refine (types_Right.calls k a1 true _ A3.out).mono ?_); rintro e w' ⟨rfl, ⟨nd, rfl⟩⟩; refine ⟨_, rfl, ?_⟩) | ((with_reducible refine gate_callee (f := 20) rfl ?_); refine goesL_ (some 16) rfl rfl Try.func20 (by kernel_rfl) rfl #[.string a1] rfl (by (try simp only [List.map_toArray, List.map_cons, List.map_nil]); first | done | rfl | (simp only [List.length_drop, List.length_take]; rfl)) ?_; (with_reducible refine (types_Split.calls k a1 t136 t137 true _ A5.out).mono ?_); rintro e w' ⟨rfl, ⟨nd, rfl⟩⟩; refine ⟨_, rfl, ?_⟩) | ((with_reducible refine gate_callee (f := 20) rfl ?_); refine goesL_ (some 37) rfl rfl Try.func20 (by kernel_rfl) rfl #[.string a0] rfl (by (try simp only [List.map_toArray, List.map_cons, List.map_nil]); first | done | rfl | (simp only [List.length_drop, List.length_take]; rfl)) ?_; (with_reducible refine (types_Split.calls k a0 t139 t140 true _ A10.out).mono ?_); rintro e w' ⟨rfl, ⟨nd, rfl⟩⟩; refine ⟨_, rfl, ?_⟩))
                go_ret
                exact ⟨by first | rfl | (simp; done) | (simp [*]; done), by repeat (first | exact Drawn0.refl _ | apply Drawn0.step)⟩
            · rw [if_neg c13] at H
              have c13b0 : (t139 == 0) = false := beq_eq_false_iff_ne.mpr c13
              have c13b1 : (t139 != 0) = true := bne_iff_ne.mpr c13
              obtain rfl := Option.some.inj H
              go_enter Try.func11, Try.ntmps11
              go_wp2_with (first | ((with_reducible refine gate_callee (f := 17) rfl ?_); refine goesL_ (some 12) rfl rfl Try.func17 (by kernel_rfl) rfl #[.string a1] rfl (by (try simp only [List.map_toArray, List.map_cons, List.map_nil]); first | done | rfl | (simp only [List.length_drop, List.length_take]; rfl)) ?_; (with_reducible refine (types_Right.calls k a1 true _ A3.out).mono ?_); rintro e w' ⟨rfl, ⟨nd, rfl⟩⟩; refine ⟨_, rfl, ?_⟩) | ((with_reducible refine gate_callee (f := 20) rfl ?_); refine goesL_ (some 16) rfl rfl Try.func20 (by kernel_rfl) rfl #[.string a1] rfl (by (try simp only [List.map_toArray, List.map_cons, List.map_nil]); first | done | rfl | (simp only [List.length_drop, List.length_take]; rfl)) ?_; (with_reducible refine (types_Split.calls k a1 t136 t137 true _ A5.out).mono ?_); rintro e w' ⟨rfl, ⟨nd, rfl⟩⟩; refine ⟨_, rfl, ?_⟩) | ((with_reducible refine gate_callee (f := 20) rfl ?_); refine goesL_ (some 37) rfl rfl Try.func20 (by kernel_rfl) rfl #[.string a0] rfl (by (try simp only [List.map_toArray, List.map_cons, List.map_nil]); first | done | rfl | (simp only [List.length_drop, List.length_take]; rfl)) ?_; (with_reducible refine (types_Split.calls k a0 t139 t140 true _ A10.out).mono ?_); rintro e w' ⟨rfl, ⟨nd, rfl⟩⟩; refine ⟨_, rfl, ?_⟩))
              go_ret
              exact ⟨by first | rfl | (simp; done) | (simp [*]; done), by repeat (first | exact Drawn0.refl _ | apply Drawn0.step)⟩
          · replace c12 := Bool.eq_false_iff.mpr c12
            subst c12
            have H1 : (some false) = some r := by rw [if_neg (show ¬ (false = true) by decide)] at H; exact H
            clear H
            have H := H1
            clear H1
            obtain rfl := Option.some.inj H
            go_enter Try.func11, Try.ntmps11
            go_wp2_with (first | ((with_reducible refine gate_callee (f := 17) rfl ?_); refine goesL_ (some 12) rfl rfl Try.func17 (by kernel_rfl) rfl #[.string a1] rfl (by (try simp only [List.map_toArray, List.map_cons, List.map_nil]); first | done | rfl | (simp only [List.length_drop, List.length_take]; rfl)) ?_; (with_reducible refine (types_Right.calls k a1 true _ A3.out).mono ?_); rintro e w' ⟨rfl, ⟨nd, rfl⟩⟩; refine ⟨_, rfl, ?_⟩) | ((with_reducible refine gate_callee (f := 20) rfl ?_); refine goesL_ (some 16) rfl rfl Try.func20 (by kernel_rfl) rfl #[.string a1] rfl (by (try simp only [List.map_toArray, List.map_cons, List.map_nil]); first | done | rfl | (simp only [List.length_drop, List.length_take]; rfl)) ?_; (with_reducible refine (types_Split.calls k a1 t136 t137 true _ A5.out).mono ?_); rintro e w' ⟨rfl, ⟨nd, rfl⟩⟩; refine ⟨_, rfl, ?_⟩) | ((with_reducible refine gate_callee (f := 20) rfl ?_); refine goesL_ (some 37) rfl rfl Try.func20 (by kernel_rfl) rfl #[.string a0] rfl (by (try simp only [List.map_toArray, List.map_cons, List.map_nil]); first | done | rfl | (simp only [List.length_drop, List.length_take]; rfl)) ?_; (with_reducible refine (types_Split.calls k a0 t139 t140 false _ A10.out).mono ?_); rintro e w' ⟨rfl, ⟨nd, rfl⟩⟩; refine ⟨_, rfl, ?_⟩))
            go_ret
            exact ⟨by first | rfl | (simp; done) | (simp [*]; done), by repeat (first | exact Drawn0.refl _ | apply Drawn0.step)⟩
        · replace c11 := Bool.eq_false_iff.mpr c11
          subst c11
          have H1 : (some false) = some r := by rw [if_neg (show ¬ (false = true) by decide)] at H; exact H
          clear H
          have H := H1
          clear H1
          obtain rfl := Option.some.inj H
          go_enter Try.func11, Try.ntmps11
          go_wp2_with (first | ((with_reducible refine gate_callee (f := 17) rfl ?_); refine goesL_ (some 12) rfl rfl Try.func17 (by kernel_rfl) rfl #[.string a1] rfl (by (try simp only [List.map_toArray, List.map_cons, List.map_nil]); first | done | rfl | (simp only [List.length_drop, List.length_take]; rfl)) ?_; (with_reducible refine (types_Right.calls k a1 true _ A3.out).mono ?_); rintro e w' ⟨rfl, ⟨nd, rfl⟩⟩; refine ⟨_, rfl, ?_⟩) | ((with_reducible refine gate_callee (f := 20) rfl ?_); refine goesL_ (some 16) rfl rfl Try.func20 (by kernel_rfl) rfl #[.string a1] rfl (by (try simp only [List.map_toArray, List.map_cons, List.map_nil]); first | done | rfl | (simp only [List.length_drop, List.length_take]; rfl)) ?_; (with_reducible refine (types_Split.calls k a1 t136 t137 false _ A5.out).mono ?_); rintro e w' ⟨rfl, ⟨nd, rfl⟩⟩; refine ⟨_, rfl, ?_⟩) | ((with_reducible refine gate_callee (f := 20) rfl ?_); refine goesL_ (some 37) rfl rfl Try.func20 (by kernel_rfl) rfl #[.string a0] rfl (by (try simp only [List.map_toArray, List.map_cons, List.map_nil]); first | done | rfl | (simp only [List.length_drop, List.length_take]; rfl)) ?_; (with_reducible refine (types_Split.calls k a0 t139 t140 t141 _ A10.out).mono ?_); rintro e w' ⟨rfl, ⟨nd, rfl⟩⟩; refine ⟨_, rfl, ?_⟩))
          go_ret
          exact ⟨by first | rfl | (simp; done) | (simp [*]; done), by repeat (first | exact Drawn0.refl _ | apply Drawn0.step)⟩
  · replace c4 := Bool.eq_false_iff.mpr c4
    subst c4
    have H1 : (some false) = some r := by rw [if_neg (show ¬ (false = true) by decide)] at H; exact H
    clear H
    have H := H1
    clear H1
    obtain rfl := Option.some.inj H
    go_enter Try.func11, Try.ntmps11
    go_wp2_with (first | ((with_reducible refine gate_callee (f := 17) rfl ?_); refine goesL_ (some 12) rfl rfl Try.func17 (by kernel_rfl) rfl #[.string a1] rfl (by (try simp only [List.map_toArray, List.map_cons, List.map_nil]); first | done | rfl | (simp only [List.length_drop, List.length_take]; rfl)) ?_; (with_reducible refine (types_Right.calls k a1 false _ A3.out).mono ?_); rintro e w' ⟨rfl, ⟨nd, rfl⟩⟩; refine ⟨_, rfl, ?_⟩))
    go_ret
    exact ⟨by first | rfl | (simp; done) | (simp [*]; done), by repeat (first | exact Drawn0.refl _ | apply Drawn0.step)⟩

/-! ### types_Compares: function 12 -/
def types_Compares.f (k : Nat) (a0 : ByteArray) (a1 : ByteArray) : Option (Bool) := (types_Assignable.f k a0 a1).bind fun t142 => (if t142 = true then (some true) else ((types_Assignable.f k a1 a0).bind fun t143 => (some t143)))
theorem types_Compares.mono : ∀ a0 a1 k, LeO (types_Compares.f k a0 a1) (types_Compares.f (k + 1) a0 a1) := by
  intro a0 a1 k
  unfold types_Compares.f
  repeat' first
      | (with_reducible exact types_Assignable.mono _ _ _)
      | (with_reducible exact LeO.refl _)
      | (with_reducible exact LeO.none _)
      | (with_reducible refine LeO.ite ?_ ?_)
      | (with_reducible refine LeO.bind ?_ (fun _ => ?_))
      | exact types_Assignable.mono _ _ _
      | exact LeO.none _
      | refine LeO.ite ?_ ?_
      | refine LeO.bind ?_ (fun _ => ?_)
set_option maxHeartbeats 8000000 in
set_option maxRecDepth 100000 in
theorem types_Compares.calls (k : Nat) (a0 : ByteArray) (a1 : ByteArray) (r : Bool) (w : World) (h : types_Compares.f k a0 a1 = some r) :
    Calls Try.prog 12 #[.string a0, .string a1] w fun e w' => e = .returned (.bool r) ∧ Drawn0 w w' := by
  have H : ((types_Assignable.f k a0 a1).bind fun t142 => (if t142 = true then (some true) else ((types_Assignable.f k a1 a0).bind fun t143 => (some t143)))) = some r := h
  clear h
  replace H := Option.bind_eq_some_iff.mp H
  obtain ⟨t142, A30, H⟩ := H
  replace H : (if t142 = true then (some true) else ((types_Assignable.f k a1 a0).bind fun t143 => (some t143))) = some r := H
  have A3 := Aside0.mk A30
  clear A30
  by_cases c4 : t142 = true
  · subst c4
    have H1 : (some true) = some r := by rw [if_pos rfl] at H; exact H
    clear H
    have H := H1
    clear H1
    obtain rfl := Option.some.inj H
    go_enter Try.func12, Try.ntmps12
    go_wp2_with (first | ((with_reducible refine gate_callee (f := 11) rfl ?_); refine goesL_ (some 7) rfl rfl Try.func11 (by kernel_rfl) rfl #[.string a0, .string a1] rfl (by (try simp only [List.map_toArray, List.map_cons, List.map_nil]); first | done | rfl | (simp only [List.length_drop, List.length_take]; rfl)) ?_; (with_reducible refine (types_Assignable.calls k a0 a1 true _ A3.out).mono ?_); rintro e w' ⟨rfl, ⟨nd, rfl⟩⟩; refine ⟨_, rfl, ?_⟩))
    go_ret
    exact ⟨by first | rfl | (simp; done) | (simp [*]; done), by repeat (first | exact Drawn0.refl _ | apply Drawn0.step)⟩
  · replace c4 := Bool.eq_false_iff.mpr c4
    subst c4
    have H1 : ((types_Assignable.f k a1 a0).bind fun t143 => (some t143)) = some r := by rw [if_neg (show ¬ (false = true) by decide)] at H; exact H
    clear H
    have H := H1
    clear H1
    replace H := Option.bind_eq_some_iff.mp H
    obtain ⟨t143, A50, H⟩ := H
    replace H : (some t143) = some r := H
    have A5 := Aside0.mk A50
    clear A50
    obtain rfl := Option.some.inj H
    go_enter Try.func12, Try.ntmps12
    go_wp2_with (first | ((with_reducible refine gate_callee (f := 11) rfl ?_); refine goesL_ (some 7) rfl rfl Try.func11 (by kernel_rfl) rfl #[.string a0, .string a1] rfl (by (try simp only [List.map_toArray, List.map_cons, List.map_nil]); first | done | rfl | (simp only [List.length_drop, List.length_take]; rfl)) ?_; (with_reducible refine (types_Assignable.calls k a0 a1 false _ A3.out).mono ?_); rintro e w' ⟨rfl, ⟨nd, rfl⟩⟩; refine ⟨_, rfl, ?_⟩) | (go_at_call 11; (with_reducible refine (types_Assignable.calls k a1 a0 t143 _ A5.out).mono ?_); rintro e w' ⟨rfl, ⟨nd, rfl⟩⟩))
    go_ret
    exact ⟨by first | rfl | (simp; done) | (simp [*]; done), by repeat (first | exact Drawn0.refl _ | apply Drawn0.step)⟩

/-! ### drowseref04_begins: function 37 -/
def drowseref04_begins.f (a0 : ByteArray) (a1 : ByteArray) : Option (Bool) := if (a0.size : Int) ≥ (a1.size : Int) then (if 0 ≤ (a1.size : Int) then (if (a1.size : Int) ≤ (a0.size : Int) then (some ((a0.extract 0 ((a1.size : Int) : Int).toNat).toList == a1.toList)) else (none)) else (none)) else (some false)
set_option maxHeartbeats 8000000 in
set_option maxRecDepth 100000 in
theorem drowseref04_begins.calls (a0 : ByteArray) (a1 : ByteArray) (r : Bool) (w : World) (h : drowseref04_begins.f a0 a1 = some r) :
    Calls Try.prog 37 #[.string a0, .string a1] w fun e w' => e = .returned (.bool r) ∧ Drawn0 w w' := by
  have H : (if (a0.size : Int) ≥ (a1.size : Int) then (if 0 ≤ (a1.size : Int) then (if (a1.size : Int) ≤ (a0.size : Int) then (some ((a0.extract 0 ((a1.size : Int) : Int).toNat).toList == a1.toList)) else (none)) else (none)) else (some false)) = some r := h
  clear h
  by_cases c3 : (a0.size : Int) ≥ (a1.size : Int)
  · rw [if_pos c3] at H
    have c3b0 : decide ((a1.size : Int) ≤ (a0.size : Int)) = true := decide_eq_true c3
    have c3b1 : decide (a1.size ≤ a0.size) = true := decide_eq_true (Int.ofNat_le.mp c3)
    clear c3
    by_cases c4 : 0 ≤ (a1.size : Int)
    · rw [if_pos c4] at H
      have c4b0 := eq_true c4
      have c4b1 : decide (0 ≤ (a1.size : Int)) = true := decide_eq_true c4
      clear c4
      by_cases c5 : (a1.size : Int) ≤ (a0.size : Int)
      · rw [if_pos c5] at H
        have c5b0 := eq_true c5
        have c5b1 : decide ((a1.size : Int) ≤ (a0.size : Int)) = true := decide_eq_true c5
        clear c5
        obtain rfl := Option.some.inj H
        go_enter Try.func37, Try.ntmps37
        go_wp2
        go_ret
        exact ⟨by first | rfl | (simp; done) | (simp [*]; done), by repeat (first | exact Drawn0.refl _ | apply Drawn0.step)⟩
      · rw [if_neg c5] at H
        exact absurd H (by simp)
    · rw [if_neg c4] at H
      exact absurd H (by simp)
  · rw [if_neg c3] at H
    have c3b0 : decide ((a1.size : Int) ≤ (a0.size : Int)) = false := decide_eq_false c3
    have c3b1 : decide (a1.size ≤ a0.size) = false := decide_eq_false (fun h => c3 (Int.ofNat_le.mpr h))
    clear c3
    obtain rfl := Option.some.inj H
    go_enter Try.func37, Try.ntmps37
    go_wp2
    go_ret
    exact ⟨by first | rfl | (simp; done) | (simp [*]; done), by repeat (first | exact Drawn0.refl _ | apply Drawn0.step)⟩

/-! ### drowseref04_split: function 38 -/
def drowseref04_split.j0 : Nat → ByteArray → Bool → Option (Int × ByteArray × Bool)
  | 0, _, _ => none
  | k + 1, x8, x35 => if x35 = true then (if 1 ≤ (wrap64 ((x8.size : Int) - 1)) then (if (wrap64 ((x8.size : Int) - 1)) ≤ (x8.size : Int) then ((drowseref04_begins.f (x8.extract 1 ((wrap64 ((x8.size : Int) - 1)) : Int).toNat) (⟨#[60, 45]⟩ : ByteArray)).bind fun t147 => (some (0, x8.extract 1 ((wrap64 ((x8.size : Int) - 1)) : Int).toNat, t147))) else (none)) else (none)) else ((drowseref04_begins.f x8 (⟨#[60, 45]⟩ : ByteArray)).bind fun t148 => (some (0, x8, !t148)))
def drowseref04_split.f (k : Nat) (a0 : ByteArray) : Option (Int × ByteArray × Bool) := (drowseref04_begins.f a0 (⟨#[99, 104, 97, 110, 32]⟩ : ByteArray)).bind fun t144 => ((drowseref04_begins.f a0 (⟨#[99, 104, 97, 110, 60, 45, 32]⟩ : ByteArray)).bind fun t145 => ((drowseref04_begins.f a0 (⟨#[60, 45, 99, 104, 97, 110, 32]⟩ : ByteArray)).bind fun t146 => (if t144 = true then (if 5 ≤ (a0.size : Int) then (if ((a0.extract 5 a0.size).size : Int) ≥ 2 then (if 0 < ((a0.extract 5 a0.size).size : Int) then (if (bt (a0.extract 5 a0.size) 0) = 40 then (if 0 ≤ (wrap64 (((a0.extract 5 a0.size).size : Int) - 1)) then (if (wrap64 (((a0.extract 5 a0.size).size : Int) - 1)) < ((a0.extract 5 a0.size).size : Int) then (drowseref04_split.j0 k (a0.extract 5 a0.size) ((bt (a0.extract 5 a0.size) (wrap64 (((a0.extract 5 a0.size).size : Int) - 1))) == 41)) else (none)) else (none)) else (drowseref04_split.j0 k (a0.extract 5 a0.size) false)) else (none)) else (drowseref04_split.j0 k (a0.extract 5 a0.size) false)) else (none)) else (if t145 = true then (if 7 ≤ (a0.size : Int) then (some (1, a0.extract 7 a0.size, true)) else (none)) else (if t146 = true then (if 7 ≤ (a0.size : Int) then (some (2, a0.extract 7 a0.size, true)) else (none)) else (some (0, (⟨#[]⟩ : ByteArray), false)))))))
theorem drowseref04_split.mono_l : ∀ k, (∀ y0 y1, LeO (drowseref04_split.j0 k y0 y1) (drowseref04_split.j0 (k + 1) y0 y1))
  | 0 => fun _ _ r h => by simp [drowseref04_split.j0] at h
  | k + 1 => by
    have ih0 := drowseref04_split.mono_l k
    · intro y0 y1
      unfold drowseref04_split.j0
      repeat' first
      | (with_reducible exact ih0 _ _)
      | (with_reducible exact LeO.refl _)
      | (with_reducible exact LeO.none _)
      | (with_reducible refine LeO.ite ?_ ?_)
      | (with_reducible refine LeO.bind ?_ (fun _ => ?_))
      | exact ih0 _ _
      | exact LeO.none _
      | refine LeO.ite ?_ ?_
      | refine LeO.bind ?_ (fun _ => ?_)
theorem drowseref04_split.mono : ∀ a0 k, LeO (drowseref04_split.f k a0) (drowseref04_split.f (k + 1) a0) := by
  intro a0 k
  have ih0 := drowseref04_split.mono_l k
  unfold drowseref04_split.f
  repeat' first
      | (with_reducible exact ih0 _ _)
      | (with_reducible exact LeO.refl _)
      | (with_reducible exact LeO.none _)
      | (with_reducible refine LeO.ite ?_ ?_)
      | (with_reducible refine LeO.bind ?_ (fun _ => ?_))
      | exact ih0 _ _
      | exact LeO.none _
      | refine LeO.ite ?_ ?_
      | refine LeO.bind ?_ (fun _ => ?_)
/-- 'begins' in one word -/
def beg (a p : ByteArray) : Bool := decide (p.size ≤ a.size) && ((a.extract 0 p.size).toList == p.toList)
theorem beg_f (a p : ByteArray) : drowseref04_begins.f a p = some (beg a p) := by
  unfold drowseref04_begins.f beg
  by_cases h : p.size ≤ a.size
  · rw [if_pos (by omega), if_pos (by omega), if_pos (by omega)]
    simp [h]
  · rw [if_neg (by omega)]
    simp [h]
theorem beg_size {a p : ByteArray} (h : beg a p = true) : p.size ≤ a.size := by
  unfold beg at h
  rw [Bool.and_eq_true, decide_eq_true_eq] at h
  exact h.1
theorem beg_c (a p : ByteArray) (b : Bool) (h : beg a p = b) (w : World) : Calls Try.prog 37 #[.string a, .string p] w fun e w' => e = .returned (.bool b) ∧ Drawn0 w w' :=
  drowseref04_begins.calls a p b w (by rw [beg_f, h])

def SplitSays (r : Int × ByteArray × Bool) (w : World) (e : Ending) (w' : World) : Prop := e = .returned (.tuple #[.int .i64 r.1, .string r.2.1, .bool r.2.2]) ∧ Drawn0 w w'


set_option maxHeartbeats 1000000 in
set_option maxRecDepth 100000 in
theorem split_one (a : ByteArray) (w : World) (b2 : Bool) (H3 : beg a ⟨#[99, 104, 97, 110, 32]⟩ = false) (H1 : beg a ⟨#[99, 104, 97, 110, 60, 45, 32]⟩ = true) (H2 : beg a ⟨#[60, 45, 99, 104, 97, 110, 32]⟩ = b2) :
    Calls Try.prog 38 #[.string a] w (SplitSays (1, a.extract 7 a.size, true) w) := by
  have hs : (7 : Int) ≤ (a.size : Int) := by have := beg_size H1; have e : (⟨#[99, 104, 97, 110, 60, 45, 32]⟩ : ByteArray).size = 7 := rfl; omega
  have G3 := Aside0.mk H3
  have G1 := Aside0.mk H1
  have G2 := Aside0.mk H2
  clear H1 H2 H3
  go_enter Try.func38, Try.ntmps38
  go_wp2_with fail
  refine (beg_c _ _ _ G3.out _).mono ?_
  rintro e w' ⟨rfl, ⟨n1, rfl⟩⟩
  go_wp2_with fail
  refine (beg_c _ _ _ G1.out _).mono ?_
  rintro e w' ⟨rfl, ⟨n2, rfl⟩⟩
  go_wp2_with fail
  refine (beg_c _ _ _ G2.out _).mono ?_
  rintro e w' ⟨rfl, ⟨n3, rfl⟩⟩
  go_wp2
  go_quiet (fail)
  go_wp2
  go_ret3
  exact ⟨rfl, by repeat (first | exact Drawn0.refl _ | apply Drawn0.step)⟩

set_option maxHeartbeats 1000000 in
set_option maxRecDepth 100000 in
theorem split_two (a : ByteArray) (w : World) (H3 : beg a ⟨#[99, 104, 97, 110, 32]⟩ = false) (H1 : beg a ⟨#[99, 104, 97, 110, 60, 45, 32]⟩ = false) (H2 : beg a ⟨#[60, 45, 99, 104, 97, 110, 32]⟩ = true) :
    Calls Try.prog 38 #[.string a] w (SplitSays (2, a.extract 7 a.size, true) w) := by
  have hs : (7 : Int) ≤ (a.size : Int) := by have := beg_size H2; have e : (⟨#[60, 45, 99, 104, 97, 110, 32]⟩ : ByteArray).size = 7 := rfl; omega
  have G3 := Aside0.mk H3
  have G1 := Aside0.mk H1
  have G2 := Aside0.mk H2
  clear H1 H2 H3
  go_enter Try.func38, Try.ntmps38
  go_wp2_with fail
  refine (beg_c _ _ _ G3.out _).mono ?_
  rintro e w' ⟨rfl, ⟨n1, rfl⟩⟩
  go_wp2_with fail
  refine (beg_c _ _ _ G1.out _).mono ?_
  rintro e w' ⟨rfl, ⟨n2, rfl⟩⟩
  go_wp2_with fail
  refine (beg_c _ _ _ G2.out _).mono ?_
  rintro e w' ⟨rfl, ⟨n3, rfl⟩⟩
  go_wp2
  go_quiet (fail)
  go_wp2
  go_ret3
  exact ⟨rfl, by repeat (first | exact Drawn0.refl _ | apply Drawn0.step)⟩

set_option maxHeartbeats 1000000 in
set_option maxRecDepth 100000 in
theorem split_none (a : ByteArray) (w : World) (H3 : beg a ⟨#[99, 104, 97, 110, 32]⟩ = false) (H1 : beg a ⟨#[99, 104, 97, 110, 60, 45, 32]⟩ = false) (H2 : beg a ⟨#[60, 45, 99, 104, 97, 110, 32]⟩ = false) :
    Calls Try.prog 38 #[.string a] w (SplitSays (0, ⟨#[]⟩, false) w) := by
  skip
  have G3 := Aside0.mk H3
  have G1 := Aside0.mk H1
  have G2 := Aside0.mk H2
  clear H1 H2 H3
  go_enter Try.func38, Try.ntmps38
  go_wp2_with fail
  refine (beg_c _ _ _ G3.out _).mono ?_
  rintro e w' ⟨rfl, ⟨n1, rfl⟩⟩
  go_wp2_with fail
  refine (beg_c _ _ _ G1.out _).mono ?_
  rintro e w' ⟨rfl, ⟨n2, rfl⟩⟩
  go_wp2_with fail
  refine (beg_c _ _ _ G2.out _).mono ?_
  rintro e w' ⟨rfl, ⟨n3, rfl⟩⟩
  go_wp2
  go_ret3
  exact ⟨rfl, by repeat (first | exact Drawn0.refl _ | apply Drawn0.step)⟩

set_option maxHeartbeats 1000000 in
set_option maxRecDepth 100000 in
theorem split_short (a : ByteArray) (w : World) (b1 b2 : Bool) (H3 : beg a ⟨#[99, 104, 97, 110, 32]⟩ = true) (H1 : beg a ⟨#[99, 104, 97, 110, 60, 45, 32]⟩ = b1) (H2 : beg a ⟨#[60, 45, 99, 104, 97, 110, 32]⟩ = b2) (e : ByteArray) (he : a.extract 5 a.size = e) (c : ¬ 2 ≤ e.size) :
    Calls Try.prog 38 #[.string a] w (SplitSays (0, e, !beg e ⟨#[60, 45]⟩) w) := by
  have hs : (5 : Int) ≤ (a.size : Int) := by have := beg_size H3; have e : (⟨#[99, 104, 97, 110, 32]⟩ : ByteArray).size = 5 := rfl; omega
  have GE := Aside0.mk he
  clear he
  have c0 : decide ((2 : Int) ≤ (e.size : Int)) = false := decide_eq_false (by omega)
  have c1 : decide (2 ≤ e.size) = false := decide_eq_false c
  clear c
  have G3 := Aside0.mk H3
  have G1 := Aside0.mk H1
  have G2 := Aside0.mk H2
  clear H1 H2 H3
  go_enter Try.func38, Try.ntmps38
  go_wp2_with fail
  refine (beg_c _ _ _ G3.out _).mono ?_
  rintro e w' ⟨rfl, ⟨n1, rfl⟩⟩
  go_wp2_with fail
  refine (beg_c _ _ _ G1.out _).mono ?_
  rintro e w' ⟨rfl, ⟨n2, rfl⟩⟩
  go_wp2_with fail
  refine (beg_c _ _ _ G2.out _).mono ?_
  rintro e w' ⟨rfl, ⟨n3, rfl⟩⟩
  go_upto_region 6 with (fail)
  simp only [GE.out]
  go_wp2_with fail
  refine (beg_c _ _ _ rfl _).mono ?_
  rintro e w' ⟨rfl, ⟨n4, rfl⟩⟩
  go_wp2
  go_ret3
  exact ⟨rfl, by repeat (first | exact Drawn0.refl _ | apply Drawn0.step)⟩

set_option maxHeartbeats 1000000 in
set_option maxRecDepth 100000 in
theorem split_head (a : ByteArray) (w : World) (b1 b2 : Bool) (H3 : beg a ⟨#[99, 104, 97, 110, 32]⟩ = true) (H1 : beg a ⟨#[99, 104, 97, 110, 60, 45, 32]⟩ = b1) (H2 : beg a ⟨#[60, 45, 99, 104, 97, 110, 32]⟩ = b2) (e : ByteArray) (he : a.extract 5 a.size = e) (c : 2 ≤ e.size) (d : ¬ bt e 0 = 40) :
    Calls Try.prog 38 #[.string a] w (SplitSays (0, e, !beg e ⟨#[60, 45]⟩) w) := by
  have hs : (5 : Int) ≤ (a.size : Int) := by have := beg_size H3; have e : (⟨#[99, 104, 97, 110, 32]⟩ : ByteArray).size = 5 := rfl; omega
  have GE := Aside0.mk he
  clear he
  have c0 : decide ((2 : Int) ≤ (e.size : Int)) = true := decide_eq_true (by omega)
  have c1 : decide (2 ≤ e.size) = true := decide_eq_true c
  have q0 : 0 < e.size := by omega
  have x0 : ∀ h : 0 < e.size, ((e[0]'h).toNat : Int) = bt e 0 := bt_at e 0
  have d0 : (bt e 0 == 40) = false := beq_eq_false_iff_ne.2 d
  clear c d
  have G3 := Aside0.mk H3
  have G1 := Aside0.mk H1
  have G2 := Aside0.mk H2
  clear H1 H2 H3
  go_enter Try.func38, Try.ntmps38
  go_wp2_with fail
  refine (beg_c _ _ _ G3.out _).mono ?_
  rintro e w' ⟨rfl, ⟨n1, rfl⟩⟩
  go_wp2_with fail
  refine (beg_c _ _ _ G1.out _).mono ?_
  rintro e w' ⟨rfl, ⟨n2, rfl⟩⟩
  go_wp2_with fail
  refine (beg_c _ _ _ G2.out _).mono ?_
  rintro e w' ⟨rfl, ⟨n3, rfl⟩⟩
  go_upto_region 6 with (fail)
  simp only [GE.out]
  go_wp2_with fail
  refine (beg_c _ _ _ rfl _).mono ?_
  rintro e w' ⟨rfl, ⟨n4, rfl⟩⟩
  go_wp2
  go_ret3
  exact ⟨rfl, by repeat (first | exact Drawn0.refl _ | apply Drawn0.step)⟩

set_option maxHeartbeats 1000000 in
set_option maxRecDepth 100000 in
theorem split_tail (a : ByteArray) (w : World) (b1 b2 : Bool) (H3 : beg a ⟨#[99, 104, 97, 110, 32]⟩ = true) (H1 : beg a ⟨#[99, 104, 97, 110, 60, 45, 32]⟩ = b1) (H2 : beg a ⟨#[60, 45, 99, 104, 97, 110, 32]⟩ = b2) (e : ByteArray) (he : a.extract 5 a.size = e) (j : Int) (hj : wrap64 ((e.size : Int) - 1) = j) (j0 : 0 ≤ j) (j1 : j < (e.size : Int)) (c : 2 ≤ e.size) (d : bt e 0 = 40) (f : ¬ bt e j = 41) :
    Calls Try.prog 38 #[.string a] w (SplitSays (0, e, !beg e ⟨#[60, 45]⟩) w) := by
  have hs : (5 : Int) ≤ (a.size : Int) := by have := beg_size H3; have e : (⟨#[99, 104, 97, 110, 32]⟩ : ByteArray).size = 5 := rfl; omega
  have GE := Aside0.mk he
  clear he
  have c0 : decide ((2 : Int) ≤ (e.size : Int)) = true := decide_eq_true (by omega)
  have c1 : decide (2 ≤ e.size) = true := decide_eq_true c
  have q0 : 0 < e.size := by omega
  have x0 : ∀ h : 0 < e.size, ((e[0]'h).toNat : Int) = bt e 0 := bt_at e 0
  have d0 : (bt e 0 == 40) = true := beq_iff_eq.2 d
  have xj := bt_at e j
  have hw : IntKind.i64.wrap ((e.size : Int) - 1) = j := (i64_w _).trans hj
  clear c d
  have f0 : (bt e j == 41) = false := beq_eq_false_iff_ne.2 f
  clear f
  have G3 := Aside0.mk H3
  have G1 := Aside0.mk H1
  have G2 := Aside0.mk H2
  clear H1 H2 H3
  go_enter Try.func38, Try.ntmps38
  go_wp2_with fail
  refine (beg_c _ _ _ G3.out _).mono ?_
  rintro e w' ⟨rfl, ⟨n1, rfl⟩⟩
  go_wp2_with fail
  refine (beg_c _ _ _ G1.out _).mono ?_
  rintro e w' ⟨rfl, ⟨n2, rfl⟩⟩
  go_wp2_with fail
  refine (beg_c _ _ _ G2.out _).mono ?_
  rintro e w' ⟨rfl, ⟨n3, rfl⟩⟩
  go_upto_region 6 with (fail)
  simp only [GE.out]
  go_wp2_with fail
  refine (beg_c _ _ _ rfl _).mono ?_
  rintro e w' ⟨rfl, ⟨n4, rfl⟩⟩
  go_wp2
  go_ret3
  exact ⟨rfl, by repeat (first | exact Drawn0.refl _ | apply Drawn0.step)⟩

set_option maxHeartbeats 1000000 in
set_option maxRecDepth 100000 in
theorem split_both (a : ByteArray) (w : World) (b1 b2 : Bool) (H3 : beg a ⟨#[99, 104, 97, 110, 32]⟩ = true) (H1 : beg a ⟨#[99, 104, 97, 110, 60, 45, 32]⟩ = b1) (H2 : beg a ⟨#[60, 45, 99, 104, 97, 110, 32]⟩ = b2) (e : ByteArray) (he : a.extract 5 a.size = e) (j : Int) (hj : wrap64 ((e.size : Int) - 1) = j) (j0 : 0 ≤ j) (j1 : j < (e.size : Int)) (j2 : 1 ≤ j) (c : 2 ≤ e.size) (d : bt e 0 = 40) (f : bt e j = 41) :
    Calls Try.prog 38 #[.string a] w (SplitSays (0, e.extract 1 j.toNat, beg (e.extract 1 j.toNat) ⟨#[60, 45]⟩) w) := by
  have hs : (5 : Int) ≤ (a.size : Int) := by have := beg_size H3; have e : (⟨#[99, 104, 97, 110, 32]⟩ : ByteArray).size = 5 := rfl; omega
  have GE := Aside0.mk he
  clear he
  have c0 : decide ((2 : Int) ≤ (e.size : Int)) = true := decide_eq_true (by omega)
  have c1 : decide (2 ≤ e.size) = true := decide_eq_true c
  have q0 : 0 < e.size := by omega
  have x0 : ∀ h : 0 < e.size, ((e[0]'h).toNat : Int) = bt e 0 := bt_at e 0
  have d0 : (bt e 0 == 40) = true := beq_iff_eq.2 d
  have xj := bt_at e j
  have hw : IntKind.i64.wrap ((e.size : Int) - 1) = j := (i64_w _).trans hj
  clear c d
  have f0 : (bt e j == 41) = true := beq_iff_eq.2 f
  have hsl := fun (wx : World) => run_slice_string (P := Try.prog) (w := wx) 9 e .i64 .i64 1 j Try.underlying9 (by omega) (by omega) (by omega)
  clear f
  have G3 := Aside0.mk H3
  have G1 := Aside0.mk H1
  have G2 := Aside0.mk H2
  clear H1 H2 H3
  go_enter Try.func38, Try.ntmps38
  go_wp2_with fail
  refine (beg_c _ _ _ G3.out _).mono ?_
  rintro e w' ⟨rfl, ⟨n1, rfl⟩⟩
  go_wp2_with fail
  refine (beg_c _ _ _ G1.out _).mono ?_
  rintro e w' ⟨rfl, ⟨n2, rfl⟩⟩
  go_wp2_with fail
  refine (beg_c _ _ _ G2.out _).mono ?_
  rintro e w' ⟨rfl, ⟨n3, rfl⟩⟩
  go_upto_region 6 with (fail)
  simp only [GE.out]
  go_wp2_with fail
  refine (beg_c _ _ _ rfl _).mono ?_
  rintro e w' ⟨rfl, ⟨n4, rfl⟩⟩
  go_wp2
  go_ret3
  exact ⟨rfl, by repeat (first | exact Drawn0.refl _ | apply Drawn0.step)⟩

theorem drowseref04_split.calls (k : Nat) (a0 : ByteArray) (r1 : Int) (r2 : ByteArray) (r3 : Bool) (w : World) (h : drowseref04_split.f k a0 = some (r1, r2, r3)) :
    Calls Try.prog 38 #[.string a0] w fun e w' => e = .returned (.tuple #[.int .i64 r1, .string r2, .bool r3]) ∧ Drawn0 w w' := by
  suffices hh : Calls Try.prog 38 #[.string a0] w (SplitSays (r1, r2, r3) w) from hh
  unfold drowseref04_split.f at h
  rw [beg_f, beg_f, beg_f] at h
  simp only [Option.bind_some] at h
  cases h3 : beg a0 ⟨#[99, 104, 97, 110, 32]⟩ with
  | true =>
    rw [h3] at h
    simp only [if_true] at h
    have hs := beg_size h3
    have e5 : (⟨#[99, 104, 97, 110, 32]⟩ : ByteArray).size = 5 := rfl
    rw [if_pos (by omega)] at h
    obtain ⟨e, he⟩ : ∃ e, a0.extract 5 a0.size = e := ⟨_, rfl⟩
    obtain ⟨j, hj⟩ : ∃ j, wrap64 ((e.size : Int) - 1) = j := ⟨_, rfl⟩
    rw [he] at h
    by_cases c : 2 ≤ e.size
    · rw [if_pos (by omega), if_pos (by omega)] at h
      by_cases d : bt e 0 = 40
      · rw [if_pos d, hj] at h
        by_cases j0 : 0 ≤ j
        · rw [if_pos j0] at h
          by_cases j1 : j < (e.size : Int)
          · rw [if_pos j1] at h
            cases k with
            | zero => cases h
            | succ k =>
              simp only [drowseref04_split.j0] at h
              rw [hj] at h
              by_cases f : bt e j = 41
              · rw [if_pos (beq_iff_eq.2 f)] at h
                by_cases j2 : 1 ≤ j
                · rw [if_pos j2, if_pos (by omega), beg_f] at h
                  simp only [Option.bind_some, Option.some.injEq, Prod.mk.injEq] at h
                  obtain ⟨rfl, rfl, rfl⟩ := h
                  exact split_both a0 w _ _ h3 rfl rfl e he j hj j0 j1 j2 c d f
                · rw [if_neg j2] at h; cases h
              · rw [if_neg (by simpa using f), beg_f] at h
                simp only [Option.bind_some, Option.some.injEq, Prod.mk.injEq] at h
                obtain ⟨rfl, rfl, rfl⟩ := h
                exact split_tail a0 w _ _ h3 rfl rfl e he j hj j0 j1 c d f
          · rw [if_neg j1] at h; cases h
        · rw [if_neg j0] at h; cases h
      · rw [if_neg d] at h
        cases k with
        | zero => cases h
        | succ k =>
          simp only [drowseref04_split.j0] at h
          rw [if_neg (by simp), beg_f] at h
          simp only [Option.bind_some, Option.some.injEq, Prod.mk.injEq] at h
          obtain ⟨rfl, rfl, rfl⟩ := h
          exact split_head a0 w _ _ h3 rfl rfl e he c d
    · rw [if_neg (by omega)] at h
      cases k with
      | zero => cases h
      | succ k =>
        simp only [drowseref04_split.j0] at h
        rw [if_neg (by simp), beg_f] at h
        simp only [Option.bind_some, Option.some.injEq, Prod.mk.injEq] at h
        obtain ⟨rfl, rfl, rfl⟩ := h
        exact split_short a0 w _ _ h3 rfl rfl e he c
  | false =>
    rw [h3] at h
    simp only [Bool.false_eq_true, if_false] at h
    cases h1 : beg a0 ⟨#[99, 104, 97, 110, 60, 45, 32]⟩ with
    | true =>
      have hs := beg_size h1
      have e7 : (⟨#[99, 104, 97, 110, 60, 45, 32]⟩ : ByteArray).size = 7 := rfl
      rw [h1] at h
      simp only [if_true] at h
      rw [if_pos (by omega)] at h
      simp only [Option.some.injEq, Prod.mk.injEq] at h
      obtain ⟨rfl, rfl, rfl⟩ := h
      exact split_one a0 w _ h3 h1 rfl
    | false =>
      rw [h1] at h
      simp only [Bool.false_eq_true, if_false] at h
      cases h2 : beg a0 ⟨#[60, 45, 99, 104, 97, 110, 32]⟩ with
      | true =>
        have hs := beg_size h2
        have e7 : (⟨#[60, 45, 99, 104, 97, 110, 32]⟩ : ByteArray).size = 7 := rfl
        rw [h2] at h
        simp only [if_true] at h
        rw [if_pos (by omega)] at h
        simp only [Option.some.injEq, Prod.mk.injEq] at h
        obtain ⟨rfl, rfl, rfl⟩ := h
        exact split_two a0 w h3 h1 h2
      | false =>
        rw [h2] at h
        simp only [Bool.false_eq_true, if_false, Option.some.injEq, Prod.mk.injEq] at h
        obtain ⟨rfl, rfl, rfl⟩ := h
        exact split_none a0 w h3 h1 h2

/-! ### drowseref04_plain: function 39 -/
def drowseref04_plain.f (a0 : ByteArray) : Option (Bool) := if a0.toList = ([105, 110, 116] : List UInt8) then (some true) else (if a0.toList = ([98, 111, 111, 108] : List UInt8) then (some true) else (if a0.toList = ([77, 117, 116, 101, 120] : List UInt8) then (some true) else (some (a0.toList == ([87, 97, 105, 116, 71, 114, 111, 117, 112] : List UInt8)))))
set_option maxHeartbeats 8000000 in
set_option maxRecDepth 100000 in
theorem drowseref04_plain.calls (a0 : ByteArray) (r : Bool) (w : World) (h : drowseref04_plain.f a0 = some r) :
    Calls Try.prog 39 #[.string a0] w fun e w' => e = .returned (.bool r) ∧ Drawn0 w w' := by
  have H : (if a0.toList = ([105, 110, 116] : List UInt8) then (some true) else (if a0.toList = ([98, 111, 111, 108] : List UInt8) then (some true) else (if a0.toList = ([77, 117, 116, 101, 120] : List UInt8) then (some true) else (some (a0.toList == ([87, 97, 105, 116, 71, 114, 111, 117, 112] : List UInt8)))))) = some r := h
  clear h
  by_cases c2 : a0.toList = ([105, 110, 116] : List UInt8)
  · rw [if_pos c2] at H
    have c2b0 : (a0.toList == ([105, 110, 116] : List UInt8)) = true := beq_iff_eq.mpr c2
    have c2b1 : (a0.toList != ([105, 110, 116] : List UInt8)) = false := bne_eq_false_iff_eq.mpr c2
    clear c2
    obtain rfl := Option.some.inj H
    go_enter Try.func39, Try.ntmps39
    go_wp2
    go_ret
    exact ⟨by first | rfl | (simp; done) | (simp [*]; done), by repeat (first | exact Drawn0.refl _ | apply Drawn0.step)⟩
  · rw [if_neg c2] at H
    have c2b0 : (a0.toList == ([105, 110, 116] : List UInt8)) = false := beq_eq_false_iff_ne.mpr c2
    have c2b1 : (a0.toList != ([105, 110, 116] : List UInt8)) = true := bne_iff_ne.mpr c2
    by_cases c3 : a0.toList = ([98, 111, 111, 108] : List UInt8)
    · rw [if_pos c3] at H
      have c3b0 : (a0.toList == ([98, 111, 111, 108] : List UInt8)) = true := beq_iff_eq.mpr c3
      have c3b1 : (a0.toList != ([98, 111, 111, 108] : List UInt8)) = false := bne_eq_false_iff_eq.mpr c3
      clear c3
      obtain rfl := Option.some.inj H
      go_enter Try.func39, Try.ntmps39
      go_wp2
      go_ret
      exact ⟨by first | rfl | (simp; done) | (simp [*]; done), by repeat (first | exact Drawn0.refl _ | apply Drawn0.step)⟩
    · rw [if_neg c3] at H
      have c3b0 : (a0.toList == ([98, 111, 111, 108] : List UInt8)) = false := beq_eq_false_iff_ne.mpr c3
      have c3b1 : (a0.toList != ([98, 111, 111, 108] : List UInt8)) = true := bne_iff_ne.mpr c3
      by_cases c4 : a0.toList = ([77, 117, 116, 101, 120] : List UInt8)
      · rw [if_pos c4] at H
        have c4b0 : (a0.toList == ([77, 117, 116, 101, 120] : List UInt8)) = true := beq_iff_eq.mpr c4
        have c4b1 : (a0.toList != ([77, 117, 116, 101, 120] : List UInt8)) = false := bne_eq_false_iff_eq.mpr c4
        clear c4
        obtain rfl := Option.some.inj H
        go_enter Try.func39, Try.ntmps39
        go_wp2
        go_ret
        exact ⟨by first | rfl | (simp; done) | (simp [*]; done), by repeat (first | exact Drawn0.refl _ | apply Drawn0.step)⟩
      · rw [if_neg c4] at H
        have c4b0 : (a0.toList == ([77, 117, 116, 101, 120] : List UInt8)) = false := beq_eq_false_iff_ne.mpr c4
        have c4b1 : (a0.toList != ([77, 117, 116, 101, 120] : List UInt8)) = true := bne_iff_ne.mpr c4
        obtain rfl := Option.some.inj H
        go_enter Try.func39, Try.ntmps39
        go_wp2
        go_ret
        exact ⟨by first | rfl | (simp; done) | (simp [*]; done), by repeat (first | exact Drawn0.refl _ | apply Drawn0.step)⟩

/-! ### drowseref04_Right: function 23 -/
def drowseref04_Right.l0 : Nat → ByteArray → Int → Option (Bool)
  | 0, _, _ => none
  | k + 1, x0, x3 => if x3 ≤ 40 then ((drowseref04_plain.f x0).bind fun t149 => (if t149 = true then (some true) else ((drowseref04_split.f k x0).bind fun bt150 => (if bt150.2.2 = true then (drowseref04_Right.l0 k bt150.2.1 (wrap64 (x3 + 1))) else (some false))))) else (some false)
def drowseref04_Right.f (k : Nat) (a0 : ByteArray) : Option (Bool) := drowseref04_Right.l0 k a0 0
theorem drowseref04_Right.mono_l : ∀ k, (∀ y0 y1, LeO (drowseref04_Right.l0 k y0 y1) (drowseref04_Right.l0 (k + 1) y0 y1))
  | 0 => fun _ _ r h => by simp [drowseref04_Right.l0] at h
  | k + 1 => by
    have ih0 := drowseref04_Right.mono_l k
    · intro y0 y1
      unfold drowseref04_Right.l0
      repeat' first
      | (with_reducible exact ih0 _ _)
      | (with_reducible exact drowseref04_split.mono _ _)
      | (with_reducible exact LeO.refl _)
      | (with_reducible exact LeO.none _)
      | (with_reducible refine LeO.ite ?_ ?_)
      | (with_reducible refine LeO.bind ?_ (fun _ => ?_))
      | exact ih0 _ _
      | exact drowseref04_split.mono _ _
      | exact LeO.none _
      | refine LeO.ite ?_ ?_
      | refine LeO.bind ?_ (fun _ => ?_)
theorem drowseref04_Right.mono : ∀ a0 k, LeO (drowseref04_Right.f k a0) (drowseref04_Right.f (k + 1) a0) := by
  intro a0 k
  have ih0 := drowseref04_Right.mono_l k
  unfold drowseref04_Right.f
  repeat' first
      | (with_reducible exact ih0 _ _)
      | (with_reducible exact drowseref04_split.mono _ _)
      | (with_reducible exact LeO.refl _)
      | (with_reducible exact LeO.none _)
      | (with_reducible refine LeO.ite ?_ ?_)
      | (with_reducible refine LeO.bind ?_ (fun _ => ?_))
      | exact ih0 _ _
      | exact drowseref04_split.mono _ _
      | exact LeO.none _
      | refine LeO.ite ?_ ?_
      | refine LeO.bind ?_ (fun _ => ?_)
set_option maxHeartbeats 8000000 in
set_option maxRecDepth 100000 in
theorem drowseref04_Right.calls (k : Nat) (a0 : ByteArray) (r : Bool) (w : World) (h : drowseref04_Right.f k a0 = some r) :
    Calls Try.prog 23 #[.string a0] w fun e w' => e = .returned (.bool r) ∧ Drawn0 w w' := by
  have H : (drowseref04_Right.l0 k a0 0) = some r := h
  clear h
  have H' := Aside0.mk H
  clear H
  go_enter Try.func23, Try.ntmps23
  go_wp2
  go_loopg [0, 3] k (fun kq v0 v3 w' => ∃ (x0_1 : ByteArray) (x3_1 : Int), v0 = .string x0_1 ∧ v3 = .int .i64 x3_1 ∧ Aside0 (drowseref04_Right.l0 kq x0_1 x3_1 = some r) ∧ Aside0 (kq ≤ k) ∧ Drawn0 w w')
  case atStart => exact ⟨(a0), (0), (by first | rfl | (simp; done) | (simp [*]; done)), (by first | rfl | (simp; done) | (simp [*]; done)), H', ⟨Nat.le_refl _⟩, by repeat (first | exact Drawn0.refl _ | apply Drawn0.step)⟩
  case round =>
    clear H'
    obtain ⟨x0_1, x3_1, rfl, rfl, HA, HK1, ⟨m1, rfl⟩⟩ := hrel
    cases gk with
    | zero => exact absurd HA.out (by simp [drowseref04_Right.l0])
    | succ k1 =>
      have H := HA.out
      clear HA
      simp only [drowseref04_Right.l0] at H
      by_cases c2 : x3_1 ≤ 40
      · rw [if_pos c2] at H
        have c2b0 : decide (x3_1 ≤ 40) = true := decide_eq_true c2
        clear c2
        replace H := Option.bind_eq_some_iff.mp H
        obtain ⟨t149, A30, H⟩ := H
        replace H : (if t149 = true then (some true) else ((drowseref04_split.f k1 x0_1).bind fun bt150 => (if bt150.2.2 = true then (drowseref04_Right.l0 k1 bt150.2.1 (wrap64 (x3_1 + 1))) else (some false)))) = some r := H
        have A3 := Aside0.mk A30
        clear A30
        by_cases c4 : t149 = true
        · subst c4
          have H1 : (some true) = some r := by rw [if_pos rfl] at H; exact H
          clear H
          have H := H1
          clear H1
          obtain rfl := Option.some.inj H
          go_wp2_with (first | ((with_reducible refine gate_callee (f := 39) rfl ?_); refine goesL_ (some 13) rfl rfl Try.func39 (by kernel_rfl) rfl #[.string x0_1] rfl (by (try simp only [List.map_toArray, List.map_cons, List.map_nil]); first | done | rfl | (simp only [List.length_drop, List.length_take]; rfl)) ?_; (with_reducible refine (drowseref04_plain.calls x0_1 true _ A3.out).mono ?_); rintro e w' ⟨rfl, ⟨nd, rfl⟩⟩; refine ⟨_, rfl, ?_⟩))
          go_ret
          exact ⟨by first | rfl | (simp; done) | (simp [*]; done), by repeat (first | exact Drawn0.refl _ | apply Drawn0.step)⟩
        · replace c4 := Bool.eq_false_iff.mpr c4
          subst c4
          have H1 : ((drowseref04_split.f k1 x0_1).bind fun bt150 => (if bt150.2.2 = true then (drowseref04_Right.l0 k1 bt150.2.1 (wrap64 (x3_1 + 1))) else (some false))) = some r := by rw [if_neg (show ¬ (false = true) by decide)] at H; exact H
          clear H
          have H := H1
          clear H1
          replace H := Option.bind_eq_some_iff.mp H
          obtain ⟨⟨t150, t151, t152⟩, A50, H⟩ := H
          replace H : (if t152 = true then (drowseref04_Right.l0 k1 t151 (wrap64 (x3_1 + 1))) else (some false)) = some r := H
          have A5 := Aside0.mk A50
          clear A50
          by_cases c6 : t152 = true
          · subst c6
            have H1 : (drowseref04_Right.l0 k1 t151 (wrap64 (x3_1 + 1))) = some r := by rw [if_pos rfl] at H; exact H
            clear H
            have H := H1
            clear H1
            have H' := Aside0.mk H
            clear H
            go_wp2_with (first | ((with_reducible refine gate_callee (f := 39) rfl ?_); refine goesL_ (some 13) rfl rfl Try.func39 (by kernel_rfl) rfl #[.string x0_1] rfl (by (try simp only [List.map_toArray, List.map_cons, List.map_nil]); first | done | rfl | (simp only [List.length_drop, List.length_take]; rfl)) ?_; (with_reducible refine (drowseref04_plain.calls x0_1 false _ A3.out).mono ?_); rintro e w' ⟨rfl, ⟨nd, rfl⟩⟩; refine ⟨_, rfl, ?_⟩) | ((with_reducible refine gate_callee (f := 38) rfl ?_); refine goesL_ (some 17) rfl rfl Try.func38 (by kernel_rfl) rfl #[.string x0_1] rfl (by (try simp only [List.map_toArray, List.map_cons, List.map_nil]); first | done | rfl | (simp only [List.length_drop, List.length_take]; rfl)) ?_; (with_reducible refine (drowseref04_split.calls k1 x0_1 t150 t151 true _ A5.out).mono ?_); rintro e w' ⟨rfl, ⟨nd, rfl⟩⟩; refine ⟨_, rfl, ?_⟩))
            go_roundg k1
            case measure => have := HK1.out; omega
            case rel => exact ⟨(t151), (wrap64 (x3_1 + 1)), (by first | rfl | (simp; done) | (simp [*]; done)), (by first | rfl | (simp; done) | (simp [*]; done)), H', ⟨by have := HK1.out; omega⟩, by repeat (first | exact Drawn0.refl _ | apply Drawn0.step)⟩
          · replace c6 := Bool.eq_false_iff.mpr c6
            subst c6
            have H1 : (some false) = some r := by rw [if_neg (show ¬ (false = true) by decide)] at H; exact H
            clear H
            have H := H1
            clear H1
            obtain rfl := Option.some.inj H
            go_wp2_with (first | ((with_reducible refine gate_callee (f := 39) rfl ?_); refine goesL_ (some 13) rfl rfl Try.func39 (by kernel_rfl) rfl #[.string x0_1] rfl (by (try simp only [List.map_toArray, List.map_cons, List.map_nil]); first | done | rfl | (simp only [List.length_drop, List.length_take]; rfl)) ?_; (with_reducible refine (drowseref04_plain.calls x0_1 false _ A3.out).mono ?_); rintro e w' ⟨rfl, ⟨nd, rfl⟩⟩; refine ⟨_, rfl, ?_⟩) | ((with_reducible refine gate_callee (f := 38) rfl ?_); refine goesL_ (some 17) rfl rfl Try.func38 (by kernel_rfl) rfl #[.string x0_1] rfl (by (try simp only [List.map_toArray, List.map_cons, List.map_nil]); first | done | rfl | (simp only [List.length_drop, List.length_take]; rfl)) ?_; (with_reducible refine (drowseref04_split.calls k1 x0_1 t150 t151 false _ A5.out).mono ?_); rintro e w' ⟨rfl, ⟨nd, rfl⟩⟩; refine ⟨_, rfl, ?_⟩))
            go_ret
            exact ⟨by first | rfl | (simp; done) | (simp [*]; done), by repeat (first | exact Drawn0.refl _ | apply Drawn0.step)⟩
      · rw [if_neg c2] at H
        have c2b0 : decide (x3_1 ≤ 40) = false := decide_eq_false c2
        clear c2
        obtain rfl := Option.some.inj H
        go_wp2
        go_ret
        exact ⟨by first | rfl | (simp; done) | (simp [*]; done), by repeat (first | exact Drawn0.refl _ | apply Drawn0.step)⟩

/-! ### drowseref04_Split: function 22 -/
def drowseref04_Split.f (k : Nat) (a0 : ByteArray) : Option (Int × ByteArray × Bool) := (drowseref04_Right.f k a0).bind fun t153 => (if t153 = true then ((drowseref04_split.f k a0).bind fun bt154 => (some (bt154.1, bt154.2.1, bt154.2.2))) else (some (0, (⟨#[]⟩ : ByteArray), false)))
theorem drowseref04_Split.mono : ∀ a0 k, LeO (drowseref04_Split.f k a0) (drowseref04_Split.f (k + 1) a0) := by
  intro a0 k
  unfold drowseref04_Split.f
  repeat' first
      | (with_reducible exact drowseref04_Right.mono _ _)
      | (with_reducible exact drowseref04_split.mono _ _)
      | (with_reducible exact LeO.refl _)
      | (with_reducible exact LeO.none _)
      | (with_reducible refine LeO.ite ?_ ?_)
      | (with_reducible refine LeO.bind ?_ (fun _ => ?_))
      | exact drowseref04_Right.mono _ _
      | exact drowseref04_split.mono _ _
      | exact LeO.none _
      | refine LeO.ite ?_ ?_
      | refine LeO.bind ?_ (fun _ => ?_)
set_option maxHeartbeats 8000000 in
set_option maxRecDepth 100000 in
theorem drowseref04_Split.calls (k : Nat) (a0 : ByteArray) (r1 : Int) (r2 : ByteArray) (r3 : Bool) (w : World) (h : drowseref04_Split.f k a0 = some (r1, r2, r3)) :
    Calls Try.prog 22 #[.string a0] w fun e w' => e = .returned (.tuple #[.int .i64 r1, .string r2, .bool r3]) ∧ Drawn0 w w' := by
  have H : ((drowseref04_Right.f k a0).bind fun t153 => (if t153 = true then ((drowseref04_split.f k a0).bind fun bt154 => (some (bt154.1, bt154.2.1, bt154.2.2))) else (some (0, (⟨#[]⟩ : ByteArray), false)))) = some (r1, r2, r3) := h
  clear h
  replace H := Option.bind_eq_some_iff.mp H
  obtain ⟨t153, A20, H⟩ := H
  replace H : (if t153 = true then ((drowseref04_split.f k a0).bind fun bt154 => (some (bt154.1, bt154.2.1, bt154.2.2))) else (some (0, (⟨#[]⟩ : ByteArray), false))) = some (r1, r2, r3) := H
  have A2 := Aside0.mk A20
  clear A20
  by_cases c3 : t153 = true
  · subst c3
    have H1 : ((drowseref04_split.f k a0).bind fun bt154 => (some (bt154.1, bt154.2.1, bt154.2.2))) = some (r1, r2, r3) := by rw [if_pos rfl] at H; exact H
    clear H
    have H := H1
    clear H1
    replace H := Option.bind_eq_some_iff.mp H
    obtain ⟨⟨t154, t155, t156⟩, A40, H⟩ := H
    replace H : (some (t154, t155, t156)) = some (r1, r2, r3) := H
    have A4 := Aside0.mk A40
    clear A40
    simp only [Option.some.injEq, Prod.mk.injEq] at H
    obtain ⟨rfl, rfl, rfl⟩ := H
    go_enter Try.func22, Try.ntmps22
    go_wp2_with (first | ((with_reducible refine gate_callee (f := 23) rfl ?_); refine goesL_ (some 7) rfl rfl Try.func23 (by kernel_rfl) rfl #[.string a0] rfl (by (try simp only [List.map_toArray, List.map_cons, List.map_nil]); first | done | rfl | (simp only [List.length_drop, List.length_take]; rfl)) ?_; (with_reducible refine (drowseref04_Right.calls k a0 true _ A2.out).mono ?_); rintro e w' ⟨rfl, ⟨nd, rfl⟩⟩; refine ⟨_, rfl, ?_⟩) | ((with_reducible refine gate_callee (f := 38) rfl ?_); refine goesL_ (some 11) rfl rfl Try.func38 (by kernel_rfl) rfl #[.string a0] rfl (by (try simp only [List.map_toArray, List.map_cons, List.map_nil]); first | done | rfl | (simp only [List.length_drop, List.length_take]; rfl)) ?_; (with_reducible refine (drowseref04_split.calls k a0 t154 t155 t156 _ A4.out).mono ?_); rintro e w' ⟨rfl, ⟨nd, rfl⟩⟩; refine ⟨_, rfl, ?_⟩))
    go_ret3
    exact ⟨by first | rfl | (simp; done) | (simp [*]; done), by repeat (first | exact Drawn0.refl _ | apply Drawn0.step)⟩
  · replace c3 := Bool.eq_false_iff.mpr c3
    subst c3
    have H1 : (some (0, (⟨#[]⟩ : ByteArray), false)) = some (r1, r2, r3) := by rw [if_neg (show ¬ (false = true) by decide)] at H; exact H
    clear H
    have H := H1
    clear H1
    simp only [Option.some.injEq, Prod.mk.injEq] at H
    obtain ⟨rfl, rfl, rfl⟩ := H
    go_enter Try.func22, Try.ntmps22
    go_wp2_with (first | ((with_reducible refine gate_callee (f := 23) rfl ?_); refine goesL_ (some 7) rfl rfl Try.func23 (by kernel_rfl) rfl #[.string a0] rfl (by (try simp only [List.map_toArray, List.map_cons, List.map_nil]); first | done | rfl | (simp only [List.length_drop, List.length_take]; rfl)) ?_; (with_reducible refine (drowseref04_Right.calls k a0 false _ A2.out).mono ?_); rintro e w' ⟨rfl, ⟨nd, rfl⟩⟩; refine ⟨_, rfl, ?_⟩))
    go_ret3
    exact ⟨by first | rfl | (simp; done) | (simp [*]; done), by repeat (first | exact Drawn0.refl _ | apply Drawn0.step)⟩

/-! ### drowseref04_Sends: function 13 -/
def drowseref04_Sends.f (k : Nat) (a0 : ByteArray) : Option (Bool) := (drowseref04_Split.f k a0).bind fun bt157 => (if bt157.2.2 = true then (some (bt157.1 != 2)) else (some false))
theorem drowseref04_Sends.mono : ∀ a0 k, LeO (drowseref04_Sends.f k a0) (drowseref04_Sends.f (k + 1) a0) := by
  intro a0 k
  unfold drowseref04_Sends.f
  repeat' first
      | (with_reducible exact drowseref04_Split.mono _ _)
      | (with_reducible exact LeO.refl _)
      | (with_reducible exact LeO.none _)
      | (with_reducible refine LeO.ite ?_ ?_)
      | (with_reducible refine LeO.bind ?_ (fun _ => ?_))
      | exact drowseref04_Split.mono _ _
      | exact LeO.none _
      | refine LeO.ite ?_ ?_
      | refine LeO.bind ?_ (fun _ => ?_)
set_option maxHeartbeats 8000000 in
set_option maxRecDepth 100000 in
theorem drowseref04_Sends.calls (k : Nat) (a0 : ByteArray) (r : Bool) (w : World) (h : drowseref04_Sends.f k a0 = some r) :
    Calls Try.prog 13 #[.string a0] w fun e w' => e = .returned (.bool r) ∧ Drawn0 w w' := by
  have H : ((drowseref04_Split.f k a0).bind fun bt157 => (if bt157.2.2 = true then (some (bt157.1 != 2)) else (some false))) = some r := h
  clear h
  replace H := Option.bind_eq_some_iff.mp H
  obtain ⟨⟨t157, t158, t159⟩, A20, H⟩ := H
  replace H : (if t159 = true then (some (t157 != 2)) else (some false)) = some r := H
  have A2 := Aside0.mk A20
  clear A20
  by_cases c3 : t159 = true
  · subst c3
    have H1 : (some (t157 != 2)) = some r := by rw [if_pos rfl] at H; exact H
    clear H
    have H := H1
    clear H1
    obtain rfl := Option.some.inj H
    go_enter Try.func13, Try.ntmps13
    go_wp2_with (first | ((with_reducible refine gate_callee (f := 22) rfl ?_); refine goesL_ (some 8) rfl rfl Try.func22 (by kernel_rfl) rfl #[.string a0] rfl (by (try simp only [List.map_toArray, List.map_cons, List.map_nil]); first | done | rfl | (simp only [List.length_drop, List.length_take]; rfl)) ?_; (with_reducible refine (drowseref04_Split.calls k a0 t157 t158 true _ A2.out).mono ?_); rintro e w' ⟨rfl, ⟨nd, rfl⟩⟩; refine ⟨_, rfl, ?_⟩))
    go_ret
    exact ⟨by first | rfl | (simp; done) | (simp [*]; done), by repeat (first | exact Drawn0.refl _ | apply Drawn0.step)⟩
  · replace c3 := Bool.eq_false_iff.mpr c3
    subst c3
    have H1 : (some false) = some r := by rw [if_neg (show ¬ (false = true) by decide)] at H; exact H
    clear H
    have H := H1
    clear H1
    obtain rfl := Option.some.inj H
    go_enter Try.func13, Try.ntmps13
    go_wp2_with (first | ((with_reducible refine gate_callee (f := 22) rfl ?_); refine goesL_ (some 8) rfl rfl Try.func22 (by kernel_rfl) rfl #[.string a0] rfl (by (try simp only [List.map_toArray, List.map_cons, List.map_nil]); first | done | rfl | (simp only [List.length_drop, List.length_take]; rfl)) ?_; (with_reducible refine (drowseref04_Split.calls k a0 t157 t158 false _ A2.out).mono ?_); rintro e w' ⟨rfl, ⟨nd, rfl⟩⟩; refine ⟨_, rfl, ?_⟩))
    go_ret
    exact ⟨by first | rfl | (simp; done) | (simp [*]; done), by repeat (first | exact Drawn0.refl _ | apply Drawn0.step)⟩

end Go.Proofs.Ytddagoihchlihaa.PTypesAssigns
