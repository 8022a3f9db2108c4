/-
  Functions of the statement TypesBack, each as a Lean function with its contract (part 3).
-/
import Derived.Test.YtddagoihchlihaaPTypesBackx0
import Derived.Test.YtddagoihchlihaaPTypesBackx1
import Derived.Test.YtddagoihchlihaaQTypesBackx2
namespace Go.Proofs.Ytddagoihchlihaa.PTypesBack
open Go.RowKit Go.Proofs.YtddagoihchlihaaW.PrintWords Go.Proofs.YtddagoihchlihaaW.PrintLast Go.Proofs.YtddagoihchlihaaW.PrintMore
attribute [local go_sem] max2_int min2_int max_two min_two max_three min_three max_four min_four   -- for this text's walks alone
set_option linter.unusedVariables false
set_option linter.unusedSimpArgs false

/-! ### drowselaw04_TypesBack: function 5 -/
mutual
def drowselaw04_TypesBack.j0 : Nat → ByteArray → Int → ByteArray → Bool → Option (Bool)
  | 0, _, _, _, _ => none
  | k + 1, x0, x1, x6, x84 => if x84 = true then (some false) else ((types_Depth.f k x6).bind fun t157 => ((types_Depth.f k x0).bind fun t158 => (if t157 = (wrap64 (t158 + 1)) then ((types_Sends.f k x6).bind fun t159 => (if (t159 != (x1 != 2)) = true then (drowselaw04_TypesBack.j1 k x0 x1 x6 true) else ((types_Receives.f k x6).bind fun t160 => (drowselaw04_TypesBack.j1 k x0 x1 x6 (t160 != (x1 != 1)))))) else (drowselaw04_TypesBack.j1 k x0 x1 x6 true))))
def drowselaw04_TypesBack.j1 : Nat → ByteArray → Int → ByteArray → Bool → Option (Bool)
  | 0, _, _, _, _ => none
  | k + 1, x0, x1, x6, x104 => if x104 = true then (some false) else (drowselaw04_TypesBack.l0 k x0 x1 x6 0)
def drowselaw04_TypesBack.l0 : Nat → ByteArray → Int → ByteArray → Int → Option (Bool)
  | 0, _, _, _, _ => none
  | k + 1, x0, x1, x6, x14 => if x14 < 3 then ((types_Chan.f k x14 x0).bind fun bt163 => ((types_Assignable.f k x6 bt163.1).bind fun t165 => (if x14 = x1 then (if (t165 != true) = true then (some false) else (drowselaw04_TypesBack.l0 k x0 x1 x6 (wrap64 (x14 + 1)))) else (if (t165 != (x1 == 0)) = true then (some false) else (drowselaw04_TypesBack.l0 k x0 x1 x6 (wrap64 (x14 + 1))))))) else ((types_Assignable.f k (⟨#[110, 105, 108]⟩ : ByteArray) x6).bind fun t161 => ((types_Assignable.f k x6 x0).bind fun t162 => (if t161 = true then (some (!t162)) else (some false))))
end
def drowselaw04_TypesBack.f (k : Nat) (a0 : ByteArray) (a1 : Int) : Option (Bool) := (types_Right.f k (⟨#[105, 110, 116]⟩ : ByteArray)).bind fun t147 => (if t147 = true then ((types_Chan.f k a1 a0).bind fun bt148 => (if bt148.2 = 0 then ((types_Split.f k bt148.1).bind fun bt152 => ((types_Chan.f k bt152.1 bt152.2.1).bind fun bt155 => (if bt152.2.2 = true then (if bt152.1 = a1 then (if bt152.2.1.toList = a0.toList then (if bt155.1.toList = bt148.1.toList then (drowselaw04_TypesBack.j0 k a0 a1 bt148.1 (bt155.2 != 0)) else (drowselaw04_TypesBack.j0 k a0 a1 bt148.1 true)) else (drowselaw04_TypesBack.j0 k a0 a1 bt148.1 true)) else (drowselaw04_TypesBack.j0 k a0 a1 bt148.1 true)) else (drowselaw04_TypesBack.j0 k a0 a1 bt148.1 true)))) else ((types_Right.f k a0).bind fun t150 => (if bt148.1.toList = ([] : List UInt8) then (if a1 < 0 then (some true) else (if a1 > 2 then (some true) else (if t150 = true then ((types_Depth.f k a0).bind fun t151 => (some (t151 == 40))) else (some true)))) else (some false))))) else (some false))
theorem drowselaw04_TypesBack.mono_l : ∀ k, (∀ y0 y1 y2 y3, LeO (drowselaw04_TypesBack.j0 k y0 y1 y2 y3) (drowselaw04_TypesBack.j0 (k + 1) y0 y1 y2 y3)) ∧ (∀ y0 y1 y2 y3, LeO (drowselaw04_TypesBack.j1 k y0 y1 y2 y3) (drowselaw04_TypesBack.j1 (k + 1) y0 y1 y2 y3)) ∧ (∀ y0 y1 y2 y3, LeO (drowselaw04_TypesBack.l0 k y0 y1 y2 y3) (drowselaw04_TypesBack.l0 (k + 1) y0 y1 y2 y3))
  | 0 => ⟨fun _ _ _ _ r h => by simp [drowselaw04_TypesBack.j0] at h, fun _ _ _ _ r h => by simp [drowselaw04_TypesBack.j1] at h, fun _ _ _ _ r h => by simp [drowselaw04_TypesBack.l0] at h⟩
  | k + 1 => by
    obtain ⟨ih0, ih1, ih2⟩ := drowselaw04_TypesBack.mono_l k
    refine ⟨?_, ?_, ?_⟩
    · intro y0 y1 y2 y3
      unfold drowselaw04_TypesBack.j0
      repeat' first
      | (with_reducible exact ih0 _ _ _ _)
      | (with_reducible exact ih1 _ _ _ _)
      | (with_reducible exact ih2 _ _ _ _)
      | (with_reducible exact types_Assignable.mono _ _ _)
      | (with_reducible exact types_Chan.mono _ _ _)
      | (with_reducible exact types_Depth.mono _ _)
      | (with_reducible exact types_Receives.mono _ _)
      | (with_reducible exact types_Right.mono _ _)
      | (with_reducible exact types_Sends.mono _ _)
      | (with_reducible exact types_Split.mono _ _)
      | (with_reducible exact LeO.refl _)
      | (with_reducible exact LeO.none _)
      | (with_reducible refine LeO.ite ?_ ?_)
      | (with_reducible refine LeO.bind ?_ (fun _ => ?_))
      | exact ih0 _ _ _ _
      | exact ih1 _ _ _ _
      | exact ih2 _ _ _ _
      | exact types_Assignable.mono _ _ _
      | exact types_Chan.mono _ _ _
      | exact types_Depth.mono _ _
      | exact types_Receives.mono _ _
      | exact types_Right.mono _ _
      | exact types_Sends.mono _ _
      | exact types_Split.mono _ _
      | exact LeO.none _
      | refine LeO.ite ?_ ?_
      | refine LeO.bind ?_ (fun _ => ?_)
    · intro y0 y1 y2 y3
      unfold drowselaw04_TypesBack.j1
      repeat' first
      | (with_reducible exact ih0 _ _ _ _)
      | (with_reducible exact ih1 _ _ _ _)
      | (with_reducible exact ih2 _ _ _ _)
      | (with_reducible exact types_Assignable.mono _ _ _)
      | (with_reducible exact types_Chan.mono _ _ _)
      | (with_reducible exact types_Depth.mono _ _)
      | (with_reducible exact types_Receives.mono _ _)
      | (with_reducible exact types_Right.mono _ _)
      | (with_reducible exact types_Sends.mono _ _)
      | (with_reducible exact types_Split.mono _ _)
      | (with_reducible exact LeO.refl _)
      | (with_reducible exact LeO.none _)
      | (with_reducible refine LeO.ite ?_ ?_)
      | (with_reducible refine LeO.bind ?_ (fun _ => ?_))
      | exact ih0 _ _ _ _
      | exact ih1 _ _ _ _
      | exact ih2 _ _ _ _
      | exact types_Assignable.mono _ _ _
      | exact types_Chan.mono _ _ _
      | exact types_Depth.mono _ _
      | exact types_Receives.mono _ _
      | exact types_Right.mono _ _
      | exact types_Sends.mono _ _
      | exact types_Split.mono _ _
      | exact LeO.none _
      | refine LeO.ite ?_ ?_
      | refine LeO.bind ?_ (fun _ => ?_)
    · intro y0 y1 y2 y3
      unfold drowselaw04_TypesBack.l0
      repeat' first
      | (with_reducible exact ih0 _ _ _ _)
      | (with_reducible exact ih1 _ _ _ _)
      | (with_reducible exact ih2 _ _ _ _)
      | (with_reducible exact types_Assignable.mono _ _ _)
      | (with_reducible exact types_Chan.mono _ _ _)
      | (with_reducible exact types_Depth.mono _ _)
      | (with_reducible exact types_Receives.mono _ _)
      | (with_reducible exact types_Right.mono _ _)
      | (with_reducible exact types_Sends.mono _ _)
      | (with_reducible exact types_Split.mono _ _)
      | (with_reducible exact LeO.refl _)
      | (with_reducible exact LeO.none _)
      | (with_reducible refine LeO.ite ?_ ?_)
      | (with_reducible refine LeO.bind ?_ (fun _ => ?_))
      | exact ih0 _ _ _ _
      | exact ih1 _ _ _ _
      | exact ih2 _ _ _ _
      | exact types_Assignable.mono _ _ _
      | exact types_Chan.mono _ _ _
      | exact types_Depth.mono _ _
      | exact types_Receives.mono _ _
      | exact types_Right.mono _ _
      | exact types_Sends.mono _ _
      | exact types_Split.mono _ _
      | exact LeO.none _
      | refine LeO.ite ?_ ?_
      | refine LeO.bind ?_ (fun _ => ?_)
theorem drowselaw04_TypesBack.mono : ∀ a0 a1 k, LeO (drowselaw04_TypesBack.f k a0 a1) (drowselaw04_TypesBack.f (k + 1) a0 a1) := by
  intro a0 a1 k
  obtain ⟨ih0, ih1, ih2⟩ := drowselaw04_TypesBack.mono_l k
  unfold drowselaw04_TypesBack.f
  repeat' first
      | (with_reducible exact ih0 _ _ _ _)
      | (with_reducible exact ih1 _ _ _ _)
      | (with_reducible exact ih2 _ _ _ _)
      | (with_reducible exact types_Assignable.mono _ _ _)
      | (with_reducible exact types_Chan.mono _ _ _)
      | (with_reducible exact types_Depth.mono _ _)
      | (with_reducible exact types_Receives.mono _ _)
      | (with_reducible exact types_Right.mono _ _)
      | (with_reducible exact types_Sends.mono _ _)
      | (with_reducible exact types_Split.mono _ _)
      | (with_reducible exact LeO.refl _)
      | (with_reducible exact LeO.none _)
      | (with_reducible refine LeO.ite ?_ ?_)
      | (with_reducible refine LeO.bind ?_ (fun _ => ?_))
      | exact ih0 _ _ _ _
      | exact ih1 _ _ _ _
      | exact ih2 _ _ _ _
      | exact types_Assignable.mono _ _ _
      | exact types_Chan.mono _ _ _
      | exact types_Depth.mono _ _
      | exact types_Receives.mono _ _
      | exact types_Right.mono _ _
      | exact types_Sends.mono _ _
      | exact types_Split.mono _ _
      | exact LeO.none _
      | refine LeO.ite ?_ ?_
      | refine LeO.bind ?_ (fun _ => ?_)
set_option maxHeartbeats 8000000 in
set_option maxRecDepth 100000 in
theorem drowselaw04_TypesBack.calls (k : Nat) (a0 : ByteArray) (a1 : Int) (r : Bool) (w : World) (h : drowselaw04_TypesBack.f k a0 a1 = some r) :
    Calls Try.prog 5 #[.string a0, .int .i64 a1] w fun e w' => e = .returned (.bool r) ∧ Drawn0 w w' := by
  have H : ((types_Right.f k (⟨#[105, 110, 116]⟩ : ByteArray)).bind fun t147 => (if t147 = true then ((types_Chan.f k a1 a0).bind fun bt148 => (if bt148.2 = 0 then ((types_Split.f k bt148.1).bind fun bt152 => ((types_Chan.f k bt152.1 bt152.2.1).bind fun bt155 => (if bt152.2.2 = true then (if bt152.1 = a1 then (if bt152.2.1.toList = a0.toList then (if bt155.1.toList = bt148.1.toList then (drowselaw04_TypesBack.j0 k a0 a1 bt148.1 (bt155.2 != 0)) else (drowselaw04_TypesBack.j0 k a0 a1 bt148.1 true)) else (drowselaw04_TypesBack.j0 k a0 a1 bt148.1 true)) else (drowselaw04_TypesBack.j0 k a0 a1 bt148.1 true)) else (drowselaw04_TypesBack.j0 k a0 a1 bt148.1 true)))) else ((types_Right.f k a0).bind fun t150 => (if bt148.1.toList = ([] : List UInt8) then (if a1 < 0 then (some true) else (if a1 > 2 then (some true) else (if t150 = true then ((types_Depth.f k a0).bind fun t151 => (some (t151 == 40))) else (some true)))) else (some false))))) else (some false))) = some r := h
  clear h
  replace H := Option.bind_eq_some_iff.mp H
  obtain ⟨t147, A30, H⟩ := H
  replace H : (if t147 = true then ((types_Chan.f k a1 a0).bind fun bt148 => (if bt148.2 = 0 then ((types_Split.f k bt148.1).bind fun bt152 => ((types_Chan.f k bt152.1 bt152.2.1).bind fun bt155 => (if bt152.2.2 = true then (if bt152.1 = a1 then (if bt152.2.1.toList = a0.toList then (if bt155.1.toList = bt148.1.toList then (drowselaw04_TypesBack.j0 k a0 a1 bt148.1 (bt155.2 != 0)) else (drowselaw04_TypesBack.j0 k a0 a1 bt148.1 true)) else (drowselaw04_TypesBack.j0 k a0 a1 bt148.1 true)) else (drowselaw04_TypesBack.j0 k a0 a1 bt148.1 true)) else (drowselaw04_TypesBack.j0 k a0 a1 bt148.1 true)))) else ((types_Right.f k a0).bind fun t150 => (if bt148.1.toList = ([] : List UInt8) then (if a1 < 0 then (some true) else (if a1 > 2 then (some true) else (if t150 = true then ((types_Depth.f k a0).bind fun t151 => (some (t151 == 40))) else (some true)))) else (some false))))) else (some false)) = some r := H
  have A3 := Aside0.mk A30
  clear A30
  by_cases c4 : t147 = true
  · subst c4
    have H1 : ((types_Chan.f k a1 a0).bind fun bt148 => (if bt148.2 = 0 then ((types_Split.f k bt148.1).bind fun bt152 => ((types_Chan.f k bt152.1 bt152.2.1).bind fun bt155 => (if bt152.2.2 = true then (if bt152.1 = a1 then (if bt152.2.1.toList = a0.toList then (if bt155.1.toList = bt148.1.toList then (drowselaw04_TypesBack.j0 k a0 a1 bt148.1 (bt155.2 != 0)) else (drowselaw04_TypesBack.j0 k a0 a1 bt148.1 true)) else (drowselaw04_TypesBack.j0 k a0 a1 bt148.1 true)) else (drowselaw04_TypesBack.j0 k a0 a1 bt148.1 true)) else (drowselaw04_TypesBack.j0 k a0 a1 bt148.1 true)))) else ((types_Right.f k a0).bind fun t150 => (if bt148.1.toList = ([] : List UInt8) then (if a1 < 0 then (some true) else (if a1 > 2 then (some true) else (if t150 = true then ((types_Depth.f k a0).bind fun t151 => (some (t151 == 40))) else (some true)))) else (some false))))) = some r := by rw [if_pos rfl] at H; exact H
    clear H
    have H := H1
    clear H1
    replace H := Option.bind_eq_some_iff.mp H
    obtain ⟨⟨t148, t149⟩, A50, H⟩ := H
    replace H : (if t149 = 0 then ((types_Split.f k t148).bind fun bt152 => ((types_Chan.f k bt152.1 bt152.2.1).bind fun bt155 => (if bt152.2.2 = true then (if bt152.1 = a1 then (if bt152.2.1.toList = a0.toList then (if bt155.1.toList = t148.toList then (drowselaw04_TypesBack.j0 k a0 a1 t148 (bt155.2 != 0)) else (drowselaw04_TypesBack.j0 k a0 a1 t148 true)) else (drowselaw04_TypesBack.j0 k a0 a1 t148 true)) else (drowselaw04_TypesBack.j0 k a0 a1 t148 true)) else (drowselaw04_TypesBack.j0 k a0 a1 t148 true)))) else ((types_Right.f k a0).bind fun t150 => (if t148.toList = ([] : List UInt8) then (if a1 < 0 then (some true) else (if a1 > 2 then (some true) else (if t150 = true then ((types_Depth.f k a0).bind fun t151 => (some (t151 == 40))) else (some true)))) else (some false)))) = some r := H
    have A5 := Aside0.mk A50
    clear A50
    by_cases c6 : t149 = 0
    · rw [if_pos c6] at H
      have c6b0 : (t149 == 0) = true := beq_iff_eq.mpr c6
      have c6b1 : (t149 != 0) = false := bne_eq_false_iff_eq.mpr c6
      clear c6
      replace H := Option.bind_eq_some_iff.mp H
      obtain ⟨⟨t152, t153, t154⟩, A70, H⟩ := H
      replace H : ((types_Chan.f k t152 t153).bind fun bt155 => (if t154 = true then (if t152 = a1 then (if t153.toList = a0.toList then (if bt155.1.toList = t148.toList then (drowselaw04_TypesBack.j0 k a0 a1 t148 (bt155.2 != 0)) else (drowselaw04_TypesBack.j0 k a0 a1 t148 true)) else (drowselaw04_TypesBack.j0 k a0 a1 t148 true)) else (drowselaw04_TypesBack.j0 k a0 a1 t148 true)) else (drowselaw04_TypesBack.j0 k a0 a1 t148 true))) = some r := H
      have A7 := Aside0.mk A70
      clear A70
      replace H := Option.bind_eq_some_iff.mp H
      obtain ⟨⟨t155, t156⟩, A80, H⟩ := H
      replace H : (if t154 = true then (if t152 = a1 then (if t153.toList = a0.toList then (if t155.toList = t148.toList then (drowselaw04_TypesBack.j0 k a0 a1 t148 (t156 != 0)) else (drowselaw04_TypesBack.j0 k a0 a1 t148 true)) else (drowselaw04_TypesBack.j0 k a0 a1 t148 true)) else (drowselaw04_TypesBack.j0 k a0 a1 t148 true)) else (drowselaw04_TypesBack.j0 k a0 a1 t148 true)) = some r := H
      have A8 := Aside0.mk A80
      clear A80
      have HC9 := Aside0.mk H
      clear H
      go_enter Try.func5, Try.ntmps5
      go_upto_region 10 with (first | ((with_reducible refine gate_callee (f := 17) rfl ?_); refine goesL_ (some 20) rfl rfl Try.func17 (by kernel_rfl) rfl #[.string (⟨#[105, 110, 116]⟩ : ByteArray)] rfl (by (try simp only [List.map_toArray, List.map_cons, List.map_nil]); first | done | rfl | (simp only [List.length_drop, List.length_take]; rfl)) ?_; (with_reducible refine (types_Right.calls k (⟨#[105, 110, 116]⟩ : ByteArray) true _ A3.out).mono ?_); rintro e w' ⟨rfl, ⟨nd, rfl⟩⟩; refine ⟨_, rfl, ?_⟩) | ((with_reducible refine gate_callee (f := 19) rfl ?_); refine goesL_ (some 26) rfl rfl Try.func19 (by kernel_rfl) rfl #[.int .i64 a1, .string a0] rfl (by (try simp only [List.map_toArray, List.map_cons, List.map_nil]); first | done | rfl | (simp only [List.length_drop, List.length_take]; rfl)) ?_; (with_reducible refine (types_Chan.calls k a1 a0 t148 t149 _ A5.out).mono ?_); rintro e w' ⟨rfl, ⟨nd, rfl⟩⟩; refine ⟨_, rfl, ?_⟩) | ((with_reducible refine gate_callee (f := 20) rfl ?_); refine goesL_ (some 54) rfl rfl Try.func20 (by kernel_rfl) rfl #[.string t148] rfl (by (try simp only [List.map_toArray, List.map_cons, List.map_nil]); first | done | rfl | (simp only [List.length_drop, List.length_take]; rfl)) ?_; (with_reducible refine (types_Split.calls k t148 t152 t153 t154 _ A7.out).mono ?_); rintro e w' ⟨rfl, ⟨nd, rfl⟩⟩; refine ⟨_, rfl, ?_⟩) | ((with_reducible refine gate_callee (f := 19) rfl ?_); refine goesL_ (some 61) rfl rfl Try.func19 (by kernel_rfl) rfl #[.int .i64 t152, .string t153] rfl (by (try simp only [List.map_toArray, List.map_cons, List.map_nil]); first | done | rfl | (simp only [List.length_drop, List.length_take]; rfl)) ?_; (with_reducible refine (types_Chan.calls k t152 t153 t155 t156 _ A8.out).mono ?_); rintro e w' ⟨rfl, ⟨nd, rfl⟩⟩; refine ⟨_, rfl, ?_⟩))
      (try simp only [Act.put, List.setIfInBounds_toArray, List.set_cons_zero, List.set_cons_succ])
      go_cut [84] (fun v84 wc => ∃ (kq : Nat) (x84_8 : Bool), v84 = .bool x84_8 ∧ Aside0 (drowselaw04_TypesBack.j0 kq a0 a1 t148 x84_8 = some r) ∧ Aside0 (kq ≤ k) ∧ Drawn0 w wc)
      case first =>
        have H := HC9.out
        clear HC9
        by_cases c10 : t154 = true
        · subst c10
          have H1 : (if t152 = a1 then (if t153.toList = a0.toList then (if t155.toList = t148.toList then (drowselaw04_TypesBack.j0 k a0 a1 t148 (t156 != 0)) else (drowselaw04_TypesBack.j0 k a0 a1 t148 true)) else (drowselaw04_TypesBack.j0 k a0 a1 t148 true)) else (drowselaw04_TypesBack.j0 k a0 a1 t148 true)) = some r := by rw [if_pos rfl] at H; exact H
          clear H
          have H := H1
          clear H1
          by_cases c11 : t152 = a1
          · rw [if_pos c11] at H
            have c11b0 : (t152 == a1) = true := beq_iff_eq.mpr c11
            have c11b1 : (t152 != a1) = false := bne_eq_false_iff_eq.mpr c11
            clear c11
            (first | rw [c11b0] | (simp only [i64_w, i32_w]; rw [c11b0]) | skip)
            by_cases c12 : t153.toList = a0.toList
            · rw [if_pos c12] at H
              have c12b0 : (t153.toList == a0.toList) = true := beq_iff_eq.mpr c12
              have c12b1 : (t153.toList != a0.toList) = false := bne_eq_false_iff_eq.mpr c12
              clear c12
              by_cases c13 : t155.toList = t148.toList
              · rw [if_pos c13] at H
                have c13b0 : (t155.toList == t148.toList) = true := beq_iff_eq.mpr c13
                have c13b1 : (t155.toList != t148.toList) = false := bne_eq_false_iff_eq.mpr c13
                clear c13
                have H' := Aside0.mk H
                clear H
                go_wp2
                go_meet
                case rel => exact ⟨_, ((t156 != 0)), (by first | rfl | (simp; done) | (simp [*]; done)), H', ⟨by first | omega | exact Nat.le_refl _⟩, by repeat (first | exact Drawn0.refl _ | apply Drawn0.step)⟩
              · rw [if_neg c13] at H
                have c13b0 : (t155.toList == t148.toList) = false := beq_eq_false_iff_ne.mpr c13
                have c13b1 : (t155.toList != t148.toList) = true := bne_iff_ne.mpr c13
                have H' := Aside0.mk H
                clear H
                go_wp2
                go_meet
                case rel => exact ⟨_, (true), (by first | rfl | (simp; done) | (simp [*]; done)), H', ⟨by first | omega | exact Nat.le_refl _⟩, by repeat (first | exact Drawn0.refl _ | apply Drawn0.step)⟩
            · rw [if_neg c12] at H
              have c12b0 : (t153.toList == a0.toList) = false := beq_eq_false_iff_ne.mpr c12
              have c12b1 : (t153.toList != a0.toList) = true := bne_iff_ne.mpr c12
              have H' := Aside0.mk H
              clear H
              go_wp2
              go_meet
              case rel => exact ⟨_, (true), (by first | rfl | (simp; done) | (simp [*]; done)), H', ⟨by first | omega | exact Nat.le_refl _⟩, by repeat (first | exact Drawn0.refl _ | apply Drawn0.step)⟩
          · rw [if_neg c11] at H
            have c11b0 : (t152 == a1) = false := beq_eq_false_iff_ne.mpr c11
            have c11b1 : (t152 != a1) = true := bne_iff_ne.mpr c11
            (first | rw [c11b0] | (simp only [i64_w, i32_w]; rw [c11b0]) | skip)
            have H' := Aside0.mk H
            clear H
            go_wp2
            go_meet
            case rel => exact ⟨_, (true), (by first | rfl | (simp; done) | (simp [*]; done)), H', ⟨by first | omega | exact Nat.le_refl _⟩, by repeat (first | exact Drawn0.refl _ | apply Drawn0.step)⟩
        · replace c10 := Bool.eq_false_iff.mpr c10
          subst c10
          have H1 : (drowselaw04_TypesBack.j0 k a0 a1 t148 true) = some r := by rw [if_neg (show ¬ (false = true) by decide)] at H; exact H
          clear H
          have H := H1
          clear H1
          have H' := Aside0.mk H
          clear H
          go_wp2
          go_meet
          case rel => exact ⟨_, (true), (by first | rfl | (simp; done) | (simp [*]; done)), H', ⟨by first | omega | exact Nat.le_refl _⟩, by repeat (first | exact Drawn0.refl _ | apply Drawn0.step)⟩
      case rest =>
        clear HC9
        try clear c1
        try clear c2
        try clear p2
        try clear c4
        try clear c5
        try clear c6
        try clear c6b0
        try clear c6b1
        try clear c10
        try clear c11
        try clear c11b0
        try clear c11b1
        try clear c12
        try clear c12b0
        try clear c12b1
        try clear c13
        try clear c13b0
        try clear c13b1
        obtain ⟨kq, x84_8, rfl, HA, HJ8, ⟨mc8, rfl⟩⟩ := hcut
        cases kq with
        | zero => exact absurd HA.out (by simp [drowselaw04_TypesBack.j0])
        | succ kj8 =>
          have H := HA.out
          clear HA
          simp only [drowselaw04_TypesBack.j0] at H
          by_cases c14 : x84_8 = true
          · subst c14
            have H1 : (some false) = some r := by rw [if_pos rfl] at H; exact H
            clear H
            have H := H1
            clear H1
            obtain rfl := Option.some.inj H
            go_wp2
            go_ret
            exact ⟨by first | rfl | (simp; done) | (simp [*]; done), by repeat (first | exact Drawn0.refl _ | apply Drawn0.step)⟩
          · replace c14 := Bool.eq_false_iff.mpr c14
            subst c14
            have H1 : ((types_Depth.f kj8 t148).bind fun t157 => ((types_Depth.f kj8 a0).bind fun t158 => (if t157 = (wrap64 (t158 + 1)) then ((types_Sends.f kj8 t148).bind fun t159 => (if (t159 != (a1 != 2)) = true then (drowselaw04_TypesBack.j1 kj8 a0 a1 t148 true) else ((types_Receives.f kj8 t148).bind fun t160 => (drowselaw04_TypesBack.j1 kj8 a0 a1 t148 (t160 != (a1 != 1)))))) else (drowselaw04_TypesBack.j1 kj8 a0 a1 t148 true)))) = some r := by rw [if_neg (show ¬ (false = true) by decide)] at H; exact H
            clear H
            have H := H1
            clear H1
            have HC15 := Aside0.mk H
            clear H
            go_upto_region 12 with (fail)
            go_cut [104] (fun v104 wc => ∃ (kq : Nat) (x104_14 : Bool), v104 = .bool x104_14 ∧ Aside0 (drowselaw04_TypesBack.j1 kq a0 a1 t148 x104_14 = some r) ∧ Aside0 (kq ≤ kj8) ∧ Drawn0 w wc)
            case first =>
              have H := HC15.out
              clear HC15
              replace H := Option.bind_eq_some_iff.mp H
              obtain ⟨t157, A160, H⟩ := H
              replace H : ((types_Depth.f kj8 a0).bind fun t158 => (if t157 = (wrap64 (t158 + 1)) then ((types_Sends.f kj8 t148).bind fun t159 => (if (t159 != (a1 != 2)) = true then (drowselaw04_TypesBack.j1 kj8 a0 a1 t148 true) else ((types_Receives.f kj8 t148).bind fun t160 => (drowselaw04_TypesBack.j1 kj8 a0 a1 t148 (t160 != (a1 != 1)))))) else (drowselaw04_TypesBack.j1 kj8 a0 a1 t148 true))) = some r := H
              have A16 := Aside0.mk A160
              clear A160
              replace H := Option.bind_eq_some_iff.mp H
              obtain ⟨t158, A170, H⟩ := H
              replace H : (if t157 = (wrap64 (t158 + 1)) then ((types_Sends.f kj8 t148).bind fun t159 => (if (t159 != (a1 != 2)) = true then (drowselaw04_TypesBack.j1 kj8 a0 a1 t148 true) else ((types_Receives.f kj8 t148).bind fun t160 => (drowselaw04_TypesBack.j1 kj8 a0 a1 t148 (t160 != (a1 != 1)))))) else (drowselaw04_TypesBack.j1 kj8 a0 a1 t148 true)) = some r := H
              have A17 := Aside0.mk A170
              clear A170
              by_cases c18 : t157 = (wrap64 (t158 + 1))
              · rw [if_pos c18] at H
                have c18b0 : (t157 == (wrap64 (t158 + 1))) = true := beq_iff_eq.mpr c18
                have c18b1 : (t157 != (wrap64 (t158 + 1))) = false := bne_eq_false_iff_eq.mpr c18
                clear c18
                (first | rw [c18b0] | (simp only [i64_w, i32_w]; rw [c18b0]) | skip)
                replace H := Option.bind_eq_some_iff.mp H
                obtain ⟨t159, A190, H⟩ := H
                replace H : (if (t159 != (a1 != 2)) = true then (drowselaw04_TypesBack.j1 kj8 a0 a1 t148 true) else ((types_Receives.f kj8 t148).bind fun t160 => (drowselaw04_TypesBack.j1 kj8 a0 a1 t148 (t160 != (a1 != 1))))) = some r := H
                have A19 := Aside0.mk A190
                clear A190
                by_cases c20 : (t159 != (a1 != 2)) = true
                · rw [if_pos c20] at H
                  have c20b0 : (t159 != (a1 != 2)) = true := c20
                  (try (have c20b1 : decide (t159 = (a1 != 2)) = false := by simpa using c20))
                  (try (have c20b2 : (t159 == (a1 != 2)) = false := by simpa using c20))
                  (try (have c20b3 : ¬ (t159 = (a1 != 2)) := by simpa using c20))
                  clear c20
                  have H' := Aside0.mk H
                  clear H
                  go_wp2_with (first | ((with_reducible refine gate_callee (f := 18) rfl ?_); refine goesL_ (some 86) rfl rfl Try.func18 (by kernel_rfl) rfl #[.string t148] rfl (by (try simp only [List.map_toArray, List.map_cons, List.map_nil]); first | done | rfl | (simp only [List.length_drop, List.length_take]; rfl)) ?_; (with_reducible refine (types_Depth.calls kj8 t148 t157 _ A16.out).mono ?_); rintro e w' ⟨rfl, ⟨nd, rfl⟩⟩; refine ⟨_, rfl, ?_⟩) | ((with_reducible refine gate_callee (f := 18) rfl ?_); refine goesL_ (some 88) rfl rfl Try.func18 (by kernel_rfl) rfl #[.string a0] rfl (by (try simp only [List.map_toArray, List.map_cons, List.map_nil]); first | done | rfl | (simp only [List.length_drop, List.length_take]; rfl)) ?_; (with_reducible refine (types_Depth.calls kj8 a0 t158 _ A17.out).mono ?_); rintro e w' ⟨rfl, ⟨nd, rfl⟩⟩; refine ⟨_, rfl, ?_⟩) | (go_at_call 9; (with_reducible refine (types_Sends.calls kj8 t148 t159 _ A19.out).mono ?_); rintro e w' ⟨rfl, ⟨nd, rfl⟩⟩))
                  go_meet
                  case rel => exact ⟨_, (true), (by first | rfl | (simp; done) | (simp [*]; done)), H', ⟨by have := HJ8.out; first | omega | exact Nat.le_refl _⟩, by repeat (first | exact Drawn0.refl _ | apply Drawn0.step)⟩
                · rw [if_neg c20] at H
                  have c20b0 : (t159 != (a1 != 2)) = false := by simpa using c20
                  (try (have c20b1 : decide (t159 = (a1 != 2)) = true := by simpa using c20))
                  (try (have c20b2 : (t159 == (a1 != 2)) = true := by simpa using c20))
                  clear c20
                  replace H := Option.bind_eq_some_iff.mp H
                  obtain ⟨t160, A210, H⟩ := H
                  replace H : (drowselaw04_TypesBack.j1 kj8 a0 a1 t148 (t160 != (a1 != 1))) = some r := H
                  have A21 := Aside0.mk A210
                  clear A210
                  have H' := Aside0.mk H
                  clear H
                  go_wp2_with (first | ((with_reducible refine gate_callee (f := 18) rfl ?_); refine goesL_ (some 86) rfl rfl Try.func18 (by kernel_rfl) rfl #[.string t148] rfl (by (try simp only [List.map_toArray, List.map_cons, List.map_nil]); first | done | rfl | (simp only [List.length_drop, List.length_take]; rfl)) ?_; (with_reducible refine (types_Depth.calls kj8 t148 t157 _ A16.out).mono ?_); rintro e w' ⟨rfl, ⟨nd, rfl⟩⟩; refine ⟨_, rfl, ?_⟩) | ((with_reducible refine gate_callee (f := 18) rfl ?_); refine goesL_ (some 88) rfl rfl Try.func18 (by kernel_rfl) rfl #[.string a0] rfl (by (try simp only [List.map_toArray, List.map_cons, List.map_nil]); first | done | rfl | (simp only [List.length_drop, List.length_take]; rfl)) ?_; (with_reducible refine (types_Depth.calls kj8 a0 t158 _ A17.out).mono ?_); rintro e w' ⟨rfl, ⟨nd, rfl⟩⟩; refine ⟨_, rfl, ?_⟩) | (go_at_call 9; (with_reducible refine (types_Sends.calls kj8 t148 t159 _ A19.out).mono ?_); rintro e w' ⟨rfl, ⟨nd, rfl⟩⟩) | (go_at_call 10; (with_reducible refine (types_Receives.calls kj8 t148 t160 _ A21.out).mono ?_); rintro e w' ⟨rfl, ⟨nd, rfl⟩⟩))
                  go_meet
                  case rel => exact ⟨_, ((t160 != (a1 != 1))), (by first | rfl | (simp; done) | (simp [*]; done)), H', ⟨by have := HJ8.out; first | omega | exact Nat.le_refl _⟩, by repeat (first | exact Drawn0.refl _ | apply Drawn0.step)⟩
              · rw [if_neg c18] at H
                have c18b0 : (t157 == (wrap64 (t158 + 1))) = false := beq_eq_false_iff_ne.mpr c18
                have c18b1 : (t157 != (wrap64 (t158 + 1))) = true := bne_iff_ne.mpr c18
                (first | rw [c18b0] | (simp only [i64_w, i32_w]; rw [c18b0]) | skip)
                have H' := Aside0.mk H
                clear H
                go_wp2_with (first | ((with_reducible refine gate_callee (f := 18) rfl ?_); refine goesL_ (some 86) rfl rfl Try.func18 (by kernel_rfl) rfl #[.string t148] rfl (by (try simp only [List.map_toArray, List.map_cons, List.map_nil]); first | done | rfl | (simp only [List.length_drop, List.length_take]; rfl)) ?_; (with_reducible refine (types_Depth.calls kj8 t148 t157 _ A16.out).mono ?_); rintro e w' ⟨rfl, ⟨nd, rfl⟩⟩; refine ⟨_, rfl, ?_⟩) | ((with_reducible refine gate_callee (f := 18) rfl ?_); refine goesL_ (some 88) rfl rfl Try.func18 (by kernel_rfl) rfl #[.string a0] rfl (by (try simp only [List.map_toArray, List.map_cons, List.map_nil]); first | done | rfl | (simp only [List.length_drop, List.length_take]; rfl)) ?_; (with_reducible refine (types_Depth.calls kj8 a0 t158 _ A17.out).mono ?_); rintro e w' ⟨rfl, ⟨nd, rfl⟩⟩; refine ⟨_, rfl, ?_⟩))
                go_meet
                case rel => exact ⟨_, (true), (by first | rfl | (simp; done) | (simp [*]; done)), H', ⟨by have := HJ8.out; first | omega | exact Nat.le_refl _⟩, by repeat (first | exact Drawn0.refl _ | apply Drawn0.step)⟩
            case rest =>
              clear HC15
              try clear c1
              try clear c2
              try clear p2
              try clear c4
              try clear c5
              try clear c6
              try clear c6b0
              try clear c6b1
              try clear p6
              try clear c8
              try clear c10
              try clear c11
              try clear c11b0
              try clear c11b1
              try clear c12
              try clear c12b0
              try clear c12b1
              try clear c13
              try clear c13b0
              try clear c13b1
              try clear c14
              try clear c17
              try clear c18
              try clear c18b0
              try clear c18b1
              try clear c19
              try clear c20
              try clear c20b0
              try clear c20b1
              try clear c20b2
              try clear p2
              obtain ⟨kq, x104_14, rfl, HA, HJ14, ⟨mc14, rfl⟩⟩ := hcut
              cases kq with
              | zero => exact absurd HA.out (by simp [drowselaw04_TypesBack.j1])
              | succ kj14 =>
                have H := HA.out
                clear HA
                simp only [drowselaw04_TypesBack.j1] at H
                by_cases c22 : x104_14 = true
                · subst c22
                  have H1 : (some false) = some r := by rw [if_pos rfl] at H; exact H
                  clear H
                  have H := H1
                  clear H1
                  obtain rfl := Option.some.inj H
                  go_wp2
                  go_ret
                  exact ⟨by first | rfl | (simp; done) | (simp [*]; done), by repeat (first | exact Drawn0.refl _ | apply Drawn0.step)⟩
                · replace c22 := Bool.eq_false_iff.mpr c22
                  subst c22
                  have H1 : (drowselaw04_TypesBack.l0 kj14 a0 a1 t148 0) = some r := by rw [if_neg (show ¬ (false = true) by decide)] at H; exact H
                  clear H
                  have H := H1
                  clear H1
                  have H' := Aside0.mk H
                  clear H
                  go_wp2
                  go_loopg [14] kj14 (fun kq v14 w' => ∃ (x14_3 : Int), v14 = .int .i64 x14_3 ∧ Aside0 (drowselaw04_TypesBack.l0 kq a0 a1 t148 x14_3 = some r) ∧ Aside0 (kq ≤ kj14) ∧ Drawn0 w w')
                  case atStart => exact ⟨(0), (by first | rfl | (simp; done) | (simp [*]; done)), H', ⟨Nat.le_refl _⟩, by repeat (first | exact Drawn0.refl _ | apply Drawn0.step)⟩
                  case round =>
                    clear H'
                    try clear c1
                    try clear c2
                    try clear p2
                    try clear c4
                    try clear c5
                    try clear c6
                    try clear c6b0
                    try clear c6b1
                    try clear p6
                    try clear c8
                    try clear c10
                    try clear c11
                    try clear c11b0
                    try clear c11b1
                    try clear c12
                    try clear c12b0
                    try clear c12b1
                    try clear c13
                    try clear c13b0
                    try clear c13b1
                    try clear c14
                    try clear c17
                    try clear c18
                    try clear c18b0
                    try clear c18b1
                    try clear c19
                    try clear c20
                    try clear c20b0
                    try clear c20b1
                    try clear c20b2
                    try clear c22
                    try clear p2
                    try clear p6
                    obtain ⟨x14_3, rfl, HA, HK3, ⟨m3, rfl⟩⟩ := hrel
                    cases gk with
                    | zero => exact absurd HA.out (by simp [drowselaw04_TypesBack.l0])
                    | succ k3 =>
                      have H := HA.out
                      clear HA
                      simp only [drowselaw04_TypesBack.l0] at H
                      by_cases c23 : x14_3 < 3
                      · rw [if_pos c23] at H
                        have c23b0 : decide (x14_3 < 3) = true := decide_eq_true c23
                        clear c23
                        replace H := Option.bind_eq_some_iff.mp H
                        obtain ⟨⟨t163, t164⟩, A240, H⟩ := H
                        replace H : ((types_Assignable.f k3 t148 t163).bind fun t165 => (if x14_3 = a1 then (if (t165 != true) = true then (some false) else (drowselaw04_TypesBack.l0 k3 a0 a1 t148 (wrap64 (x14_3 + 1)))) else (if (t165 != (a1 == 0)) = true then (some false) else (drowselaw04_TypesBack.l0 k3 a0 a1 t148 (wrap64 (x14_3 + 1)))))) = some r := H
                        have A24 := Aside0.mk A240
                        clear A240
                        replace H := Option.bind_eq_some_iff.mp H
                        obtain ⟨t165, A250, H⟩ := H
                        replace H : (if x14_3 = a1 then (if (t165 != true) = true then (some false) else (drowselaw04_TypesBack.l0 k3 a0 a1 t148 (wrap64 (x14_3 + 1)))) else (if (t165 != (a1 == 0)) = true then (some false) else (drowselaw04_TypesBack.l0 k3 a0 a1 t148 (wrap64 (x14_3 + 1))))) = some r := H
                        have A25 := Aside0.mk A250
                        clear A250
                        by_cases c26 : x14_3 = a1
                        · rw [if_pos c26] at H
                          have c26b0 : (x14_3 == a1) = true := beq_iff_eq.mpr c26
                          have c26b1 : (x14_3 != a1) = false := bne_eq_false_iff_eq.mpr c26
                          clear c26
                          by_cases c27 : (t165 != true) = true
                          · rw [if_pos c27] at H
                            have c27b0 : (t165 != true) = true := c27
                            (try (have c27b1 : decide (t165 = true) = false := by simpa using c27))
                            (try (have c27b2 : (t165 == true) = false := by simpa using c27))
                            (try (have c27b3 : ¬ (t165 = true) := by simpa using c27))
                            clear c27
                            obtain rfl := Option.some.inj H
                            go_wp2_with (first | ((with_reducible refine gate_callee (f := 19) rfl ?_); refine goesL_ (some 112) rfl rfl Try.func19 (by kernel_rfl) rfl #[.int .i64 x14_3, .string a0] rfl (by (try simp only [List.map_toArray, List.map_cons, List.map_nil]); first | done | rfl | (simp only [List.length_drop, List.length_take]; rfl)) ?_; (with_reducible refine (types_Chan.calls k3 x14_3 a0 t163 t164 _ A24.out).mono ?_); rintro e w' ⟨rfl, ⟨nd, rfl⟩⟩; refine ⟨_, rfl, ?_⟩) | ((with_reducible refine gate_callee (f := 11) rfl ?_); refine goesL_ (some 117) rfl rfl Try.func11 (by kernel_rfl) rfl #[.string t148, .string t163] rfl (by (try simp only [List.map_toArray, List.map_cons, List.map_nil]); first | done | rfl | (simp only [List.length_drop, List.length_take]; rfl)) ?_; (with_reducible refine (types_Assignable.calls k3 t148 t163 t165 _ A25.out).mono ?_); rintro e w' ⟨rfl, ⟨nd, rfl⟩⟩; refine ⟨_, rfl, ?_⟩))
                            go_ret
                            exact ⟨by first | rfl | (simp; done) | (simp [*]; done), by repeat (first | exact Drawn0.refl _ | apply Drawn0.step)⟩
                          · rw [if_neg c27] at H
                            have c27b0 : (t165 != true) = false := by simpa using c27
                            (try (have c27b1 : decide (t165 = true) = true := by simpa using c27))
                            (try (have c27b2 : (t165 == true) = true := by simpa using c27))
                            clear c27
                            have H' := Aside0.mk H
                            clear H
                            go_wp2_with (first | ((with_reducible refine gate_callee (f := 19) rfl ?_); refine goesL_ (some 112) rfl rfl Try.func19 (by kernel_rfl) rfl #[.int .i64 x14_3, .string a0] rfl (by (try simp only [List.map_toArray, List.map_cons, List.map_nil]); first | done | rfl | (simp only [List.length_drop, List.length_take]; rfl)) ?_; (with_reducible refine (types_Chan.calls k3 x14_3 a0 t163 t164 _ A24.out).mono ?_); rintro e w' ⟨rfl, ⟨nd, rfl⟩⟩; refine ⟨_, rfl, ?_⟩) | ((with_reducible refine gate_callee (f := 11) rfl ?_); refine goesL_ (some 117) rfl rfl Try.func11 (by kernel_rfl) rfl #[.string t148, .string t163] rfl (by (try simp only [List.map_toArray, List.map_cons, List.map_nil]); first | done | rfl | (simp only [List.length_drop, List.length_take]; rfl)) ?_; (with_reducible refine (types_Assignable.calls k3 t148 t163 t165 _ A25.out).mono ?_); rintro e w' ⟨rfl, ⟨nd, rfl⟩⟩; refine ⟨_, rfl, ?_⟩))
                            go_roundg k3
                            case measure => have := HJ8.out; have := HJ14.out; have := HK3.out; omega
                            case rel => exact ⟨(wrap64 (x14_3 + 1)), (by first | rfl | (simp; done) | (simp [*]; done)), H', ⟨by have := HJ8.out; have := HJ14.out; have := HK3.out; omega⟩, by repeat (first | exact Drawn0.refl _ | apply Drawn0.step)⟩
                        · rw [if_neg c26] at H
                          have c26b0 : (x14_3 == a1) = false := beq_eq_false_iff_ne.mpr c26
                          have c26b1 : (x14_3 != a1) = true := bne_iff_ne.mpr c26
                          by_cases c28 : (t165 != (a1 == 0)) = true
                          · rw [if_pos c28] at H
                            have c28b0 : (t165 != (a1 == 0)) = true := c28
                            (try (have c28b1 : decide (t165 = (a1 == 0)) = false := by simpa using c28))
                            (try (have c28b2 : (t165 == (a1 == 0)) = false := by simpa using c28))
                            (try (have c28b3 : ¬ (t165 = (a1 == 0)) := by simpa using c28))
                            clear c28
                            obtain rfl := Option.some.inj H
                            go_wp2_with (first | ((with_reducible refine gate_callee (f := 19) rfl ?_); refine goesL_ (some 112) rfl rfl Try.func19 (by kernel_rfl) rfl #[.int .i64 x14_3, .string a0] rfl (by (try simp only [List.map_toArray, List.map_cons, List.map_nil]); first | done | rfl | (simp only [List.length_drop, List.length_take]; rfl)) ?_; (with_reducible refine (types_Chan.calls k3 x14_3 a0 t163 t164 _ A24.out).mono ?_); rintro e w' ⟨rfl, ⟨nd, rfl⟩⟩; refine ⟨_, rfl, ?_⟩) | ((with_reducible refine gate_callee (f := 11) rfl ?_); refine goesL_ (some 117) rfl rfl Try.func11 (by kernel_rfl) rfl #[.string t148, .string t163] rfl (by (try simp only [List.map_toArray, List.map_cons, List.map_nil]); first | done | rfl | (simp only [List.length_drop, List.length_take]; rfl)) ?_; (with_reducible refine (types_Assignable.calls k3 t148 t163 t165 _ A25.out).mono ?_); rintro e w' ⟨rfl, ⟨nd, rfl⟩⟩; refine ⟨_, rfl, ?_⟩))
                            go_ret
                            exact ⟨by first | rfl | (simp; done) | (simp [*]; done), by repeat (first | exact Drawn0.refl _ | apply Drawn0.step)⟩
                          · rw [if_neg c28] at H
                            have c28b0 : (t165 != (a1 == 0)) = false := by simpa using c28
                            (try (have c28b1 : decide (t165 = (a1 == 0)) = true := by simpa using c28))
                            (try (have c28b2 : (t165 == (a1 == 0)) = true := by simpa using c28))
                            clear c28
                            have H' := Aside0.mk H
                            clear H
                            go_wp2_with (first | ((with_reducible refine gate_callee (f := 19) rfl ?_); refine goesL_ (some 112) rfl rfl Try.func19 (by kernel_rfl) rfl #[.int .i64 x14_3, .string a0] rfl (by (try simp only [List.map_toArray, List.map_cons, List.map_nil]); first | done | rfl | (simp only [List.length_drop, List.length_take]; rfl)) ?_; (with_reducible refine (types_Chan.calls k3 x14_3 a0 t163 t164 _ A24.out).mono ?_); rintro e w' ⟨rfl, ⟨nd, rfl⟩⟩; refine ⟨_, rfl, ?_⟩) | ((with_reducible refine gate_callee (f := 11) rfl ?_); refine goesL_ (some 117) rfl rfl Try.func11 (by kernel_rfl) rfl #[.string t148, .string t163] rfl (by (try simp only [List.map_toArray, List.map_cons, List.map_nil]); first | done | rfl | (simp only [List.length_drop, List.length_take]; rfl)) ?_; (with_reducible refine (types_Assignable.calls k3 t148 t163 t165 _ A25.out).mono ?_); rintro e w' ⟨rfl, ⟨nd, rfl⟩⟩; refine ⟨_, rfl, ?_⟩))
                            go_roundg k3
                            case measure => have := HJ8.out; have := HJ14.out; have := HK3.out; omega
                            case rel => exact ⟨(wrap64 (x14_3 + 1)), (by first | rfl | (simp; done) | (simp [*]; done)), H', ⟨by have := HJ8.out; have := HJ14.out; have := HK3.out; omega⟩, by repeat (first | exact Drawn0.refl _ | apply Drawn0.step)⟩
                      · rw [if_neg c23] at H
                        have c23b0 : decide (x14_3 < 3) = false := decide_eq_false c23
                        clear c23
                        replace H := Option.bind_eq_some_iff.mp H
                        obtain ⟨t161, A290, H⟩ := H
                        replace H : ((types_Assignable.f k3 t148 a0).bind fun t162 => (if t161 = true then (some (!t162)) else (some false))) = some r := H
                        have A29 := Aside0.mk A290
                        clear A290
                        replace H := Option.bind_eq_some_iff.mp H
                        obtain ⟨t162, A300, H⟩ := H
                        replace H : (if t161 = true then (some (!t162)) else (some false)) = some r := H
                        have A30 := Aside0.mk A300
                        clear A300
                        by_cases c31 : t161 = true
                        · subst c31
                          have H1 : (some (!t162)) = some r := by rw [if_pos rfl] at H; exact H
                          clear H
                          have H := H1
                          clear H1
                          obtain rfl := Option.some.inj H
                          go_wp2_with (first | ((with_reducible refine gate_callee (f := 11) rfl ?_); refine goesL_ (some 128) rfl rfl Try.func11 (by kernel_rfl) rfl #[.string (⟨#[110, 105, 108]⟩ : ByteArray), .string t148] rfl (by (try simp only [List.map_toArray, List.map_cons, List.map_nil]); first | done | rfl | (simp only [List.length_drop, List.length_take]; rfl)) ?_; (with_reducible refine (types_Assignable.calls k3 (⟨#[110, 105, 108]⟩ : ByteArray) t148 true _ A29.out).mono ?_); rintro e w' ⟨rfl, ⟨nd, rfl⟩⟩; refine ⟨_, rfl, ?_⟩) | ((with_reducible refine gate_callee (f := 11) rfl ?_); refine goesL_ (some 131) rfl rfl Try.func11 (by kernel_rfl) rfl #[.string t148, .string a0] rfl (by (try simp only [List.map_toArray, List.map_cons, List.map_nil]); first | done | rfl | (simp only [List.length_drop, List.length_take]; rfl)) ?_; (with_reducible refine (types_Assignable.calls k3 t148 a0 t162 _ A30.out).mono ?_); rintro e w' ⟨rfl, ⟨nd, rfl⟩⟩; refine ⟨_, rfl, ?_⟩))
                          go_ret
                          exact ⟨by first | rfl | (simp; done) | (simp [*]; done), by repeat (first | exact Drawn0.refl _ | apply Drawn0.step)⟩
                        · replace c31 := Bool.eq_false_iff.mpr c31
                          subst c31
                          have H1 : (some false) = some r := by rw [if_neg (show ¬ (false = true) by decide)] at H; exact H
                          clear H
                          have H := H1
                          clear H1
                          obtain rfl := Option.some.inj H
                          go_wp2_with (first | ((with_reducible refine gate_callee (f := 11) rfl ?_); refine goesL_ (some 128) rfl rfl Try.func11 (by kernel_rfl) rfl #[.string (⟨#[110, 105, 108]⟩ : ByteArray), .string t148] rfl (by (try simp only [List.map_toArray, List.map_cons, List.map_nil]); first | done | rfl | (simp only [List.length_drop, List.length_take]; rfl)) ?_; (with_reducible refine (types_Assignable.calls k3 (⟨#[110, 105, 108]⟩ : ByteArray) t148 false _ A29.out).mono ?_); rintro e w' ⟨rfl, ⟨nd, rfl⟩⟩; refine ⟨_, rfl, ?_⟩) | ((with_reducible refine gate_callee (f := 11) rfl ?_); refine goesL_ (some 131) rfl rfl Try.func11 (by kernel_rfl) rfl #[.string t148, .string a0] rfl (by (try simp only [List.map_toArray, List.map_cons, List.map_nil]); first | done | rfl | (simp only [List.length_drop, List.length_take]; rfl)) ?_; (with_reducible refine (types_Assignable.calls k3 t148 a0 t162 _ A30.out).mono ?_); rintro e w' ⟨rfl, ⟨nd, rfl⟩⟩; refine ⟨_, rfl, ?_⟩))
                          go_ret
                          exact ⟨by first | rfl | (simp; done) | (simp [*]; done), by repeat (first | exact Drawn0.refl _ | apply Drawn0.step)⟩
    · rw [if_neg c6] at H
      have c6b0 : (t149 == 0) = false := beq_eq_false_iff_ne.mpr c6
      have c6b1 : (t149 != 0) = true := bne_iff_ne.mpr c6
      replace H := Option.bind_eq_some_iff.mp H
      obtain ⟨t150, A320, H⟩ := H
      replace H : (if t148.toList = ([] : List UInt8) then (if a1 < 0 then (some true) else (if a1 > 2 then (some true) else (if t150 = true then ((types_Depth.f k a0).bind fun t151 => (some (t151 == 40))) else (some true)))) else (some false)) = some r := H
      have A32 := Aside0.mk A320
      clear A320
      by_cases c33 : t148.toList = ([] : List UInt8)
      · rw [if_pos c33] at H
        have c33b0 : (t148.toList == ([] : List UInt8)) = true := beq_iff_eq.mpr c33
        have c33b1 : (t148.toList != ([] : List UInt8)) = false := bne_eq_false_iff_eq.mpr c33
        clear c33
        by_cases c34 : a1 < 0
        · rw [if_pos c34] at H
          have c34b0 : decide (a1 < 0) = true := decide_eq_true c34
          clear c34
          obtain rfl := Option.some.inj H
          go_enter Try.func5, Try.ntmps5
          go_wp2_with (first | ((with_reducible refine gate_callee (f := 17) rfl ?_); refine goesL_ (some 20) rfl rfl Try.func17 (by kernel_rfl) rfl #[.string (⟨#[105, 110, 116]⟩ : ByteArray)] rfl (by (try simp only [List.map_toArray, List.map_cons, List.map_nil]); first | done | rfl | (simp only [List.length_drop, List.length_take]; rfl)) ?_; (with_reducible refine (types_Right.calls k (⟨#[105, 110, 116]⟩ : ByteArray) true _ A3.out).mono ?_); rintro e w' ⟨rfl, ⟨nd, rfl⟩⟩; refine ⟨_, rfl, ?_⟩) | ((with_reducible refine gate_callee (f := 19) rfl ?_); refine goesL_ (some 26) rfl rfl Try.func19 (by kernel_rfl) rfl #[.int .i64 a1, .string a0] rfl (by (try simp only [List.map_toArray, List.map_cons, List.map_nil]); first | done | rfl | (simp only [List.length_drop, List.length_take]; rfl)) ?_; (with_reducible refine (types_Chan.calls k a1 a0 t148 t149 _ A5.out).mono ?_); rintro e w' ⟨rfl, ⟨nd, rfl⟩⟩; refine ⟨_, rfl, ?_⟩) | ((with_reducible refine gate_callee (f := 17) rfl ?_); refine goesL_ (some 32) rfl rfl Try.func17 (by kernel_rfl) rfl #[.string a0] rfl (by (try simp only [List.map_toArray, List.map_cons, List.map_nil]); first | done | rfl | (simp only [List.length_drop, List.length_take]; rfl)) ?_; (with_reducible refine (types_Right.calls k a0 t150 _ A32.out).mono ?_); rintro e w' ⟨rfl, ⟨nd, rfl⟩⟩; refine ⟨_, rfl, ?_⟩))
          go_ret
          exact ⟨by first | rfl | (simp; done) | (simp [*]; done), by repeat (first | exact Drawn0.refl _ | apply Drawn0.step)⟩
        · rw [if_neg c34] at H
          have c34b0 : decide (a1 < 0) = false := decide_eq_false c34
          clear c34
          by_cases c35 : a1 > 2
          · rw [if_pos c35] at H
            have c35b0 : decide (2 < a1) = true := decide_eq_true c35
            clear c35
            obtain rfl := Option.some.inj H
            go_enter Try.func5, Try.ntmps5
            go_wp2_with (first | ((with_reducible refine gate_callee (f := 17) rfl ?_); refine goesL_ (some 20) rfl rfl Try.func17 (by kernel_rfl) rfl #[.string (⟨#[105, 110, 116]⟩ : ByteArray)] rfl (by (try simp only [List.map_toArray, List.map_cons, List.map_nil]); first | done | rfl | (simp only [List.length_drop, List.length_take]; rfl)) ?_; (with_reducible refine (types_Right.calls k (⟨#[105, 110, 116]⟩ : ByteArray) true _ A3.out).mono ?_); rintro e w' ⟨rfl, ⟨nd, rfl⟩⟩; refine ⟨_, rfl, ?_⟩) | ((with_reducible refine gate_callee (f := 19) rfl ?_); refine goesL_ (some 26) rfl rfl Try.func19 (by kernel_rfl) rfl #[.int .i64 a1, .string a0] rfl (by (try simp only [List.map_toArray, List.map_cons, List.map_nil]); first | done | rfl | (simp only [List.length_drop, List.length_take]; rfl)) ?_; (with_reducible refine (types_Chan.calls k a1 a0 t148 t149 _ A5.out).mono ?_); rintro e w' ⟨rfl, ⟨nd, rfl⟩⟩; refine ⟨_, rfl, ?_⟩) | ((with_reducible refine gate_callee (f := 17) rfl ?_); refine goesL_ (some 32) rfl rfl Try.func17 (by kernel_rfl) rfl #[.string a0] rfl (by (try simp only [List.map_toArray, List.map_cons, List.map_nil]); first | done | rfl | (simp only [List.length_drop, List.length_take]; rfl)) ?_; (with_reducible refine (types_Right.calls k a0 t150 _ A32.out).mono ?_); rintro e w' ⟨rfl, ⟨nd, rfl⟩⟩; refine ⟨_, rfl, ?_⟩))
            go_ret
            exact ⟨by first | rfl | (simp; done) | (simp [*]; done), by repeat (first | exact Drawn0.refl _ | apply Drawn0.step)⟩
          · rw [if_neg c35] at H
            have c35b0 : decide (2 < a1) = false := decide_eq_false c35
            clear c35
            by_cases c36 : t150 = true
            · subst c36
              have H1 : ((types_Depth.f k a0).bind fun t151 => (some (t151 == 40))) = some r := by rw [if_pos rfl] at H; exact H
              clear H
              have H := H1
              clear H1
              replace H := Option.bind_eq_some_iff.mp H
              obtain ⟨t151, A370, H⟩ := H
              replace H : (some (t151 == 40)) = some r := H
              have A37 := Aside0.mk A370
              clear A370
              obtain rfl := Option.some.inj H
              go_enter Try.func5, Try.ntmps5
              go_wp2_with (first | ((with_reducible refine gate_callee (f := 17) rfl ?_); refine goesL_ (some 20) rfl rfl Try.func17 (by kernel_rfl) rfl #[.string (⟨#[105, 110, 116]⟩ : ByteArray)] rfl (by (try simp only [List.map_toArray, List.map_cons, List.map_nil]); first | done | rfl | (simp only [List.length_drop, List.length_take]; rfl)) ?_; (with_reducible refine (types_Right.calls k (⟨#[105, 110, 116]⟩ : ByteArray) true _ A3.out).mono ?_); rintro e w' ⟨rfl, ⟨nd, rfl⟩⟩; refine ⟨_, rfl, ?_⟩) | ((with_reducible refine gate_callee (f := 19) rfl ?_); refine goesL_ (some 26) rfl rfl Try.func19 (by kernel_rfl) rfl #[.int .i64 a1, .string a0] rfl (by (try simp only [List.map_toArray, List.map_cons, List.map_nil]); first | done | rfl | (simp only [List.length_drop, List.length_take]; rfl)) ?_; (with_reducible refine (types_Chan.calls k a1 a0 t148 t149 _ A5.out).mono ?_); rintro e w' ⟨rfl, ⟨nd, rfl⟩⟩; refine ⟨_, rfl, ?_⟩) | ((with_reducible refine gate_callee (f := 17) rfl ?_); refine goesL_ (some 32) rfl rfl Try.func17 (by kernel_rfl) rfl #[.string a0] rfl (by (try simp only [List.map_toArray, List.map_cons, List.map_nil]); first | done | rfl | (simp only [List.length_drop, List.length_take]; rfl)) ?_; (with_reducible refine (types_Right.calls k a0 true _ A32.out).mono ?_); rintro e w' ⟨rfl, ⟨nd, rfl⟩⟩; refine ⟨_, rfl, ?_⟩) | (go_at_call 18; (with_reducible refine (types_Depth.calls k a0 t151 _ A37.out).mono ?_); rintro e w' ⟨rfl, ⟨nd, rfl⟩⟩))
              go_ret
              exact ⟨by first | rfl | (simp; done) | (simp [*]; done), by repeat (first | exact Drawn0.refl _ | apply Drawn0.step)⟩
            · replace c36 := Bool.eq_false_iff.mpr c36
              subst c36
              have H1 : (some true) = some r := by rw [if_neg (show ¬ (false = true) by decide)] at H; exact H
              clear H
              have H := H1
              clear H1
              obtain rfl := Option.some.inj H
              go_enter Try.func5, Try.ntmps5
              go_wp2_with (first | ((with_reducible refine gate_callee (f := 17) rfl ?_); refine goesL_ (some 20) rfl rfl Try.func17 (by kernel_rfl) rfl #[.string (⟨#[105, 110, 116]⟩ : ByteArray)] rfl (by (try simp only [List.map_toArray, List.map_cons, List.map_nil]); first | done | rfl | (simp only [List.length_drop, List.length_take]; rfl)) ?_; (with_reducible refine (types_Right.calls k (⟨#[105, 110, 116]⟩ : ByteArray) true _ A3.out).mono ?_); rintro e w' ⟨rfl, ⟨nd, rfl⟩⟩; refine ⟨_, rfl, ?_⟩) | ((with_reducible refine gate_callee (f := 19) rfl ?_); refine goesL_ (some 26) rfl rfl Try.func19 (by kernel_rfl) rfl #[.int .i64 a1, .string a0] rfl (by (try simp only [List.map_toArray, List.map_cons, List.map_nil]); first | done | rfl | (simp only [List.length_drop, List.length_take]; rfl)) ?_; (with_reducible refine (types_Chan.calls k a1 a0 t148 t149 _ A5.out).mono ?_); rintro e w' ⟨rfl, ⟨nd, rfl⟩⟩; refine ⟨_, rfl, ?_⟩) | ((with_reducible refine gate_callee (f := 17) rfl ?_); refine goesL_ (some 32) rfl rfl Try.func17 (by kernel_rfl) rfl #[.string a0] rfl (by (try simp only [List.map_toArray, List.map_cons, List.map_nil]); first | done | rfl | (simp only [List.length_drop, List.length_take]; rfl)) ?_; (with_reducible refine (types_Right.calls k a0 false _ A32.out).mono ?_); rintro e w' ⟨rfl, ⟨nd, rfl⟩⟩; refine ⟨_, rfl, ?_⟩))
              go_ret
              exact ⟨by first | rfl | (simp; done) | (simp [*]; done), by repeat (first | exact Drawn0.refl _ | apply Drawn0.step)⟩
      · rw [if_neg c33] at H
        have c33b0 : (t148.toList == ([] : List UInt8)) = false := beq_eq_false_iff_ne.mpr c33
        have c33b1 : (t148.toList != ([] : List UInt8)) = true := bne_iff_ne.mpr c33
        obtain rfl := Option.some.inj H
        go_enter Try.func5, Try.ntmps5
        go_wp2_with (first | ((with_reducible refine gate_callee (f := 17) rfl ?_); refine goesL_ (some 20) rfl rfl Try.func17 (by kernel_rfl) rfl #[.string (⟨#[105, 110, 116]⟩ : ByteArray)] rfl (by (try simp only [List.map_toArray, List.map_cons, List.map_nil]); first | done | rfl | (simp only [List.length_drop, List.length_take]; rfl)) ?_; (with_reducible refine (types_Right.calls k (⟨#[105, 110, 116]⟩ : ByteArray) true _ A3.out).mono ?_); rintro e w' ⟨rfl, ⟨nd, rfl⟩⟩; refine ⟨_, rfl, ?_⟩) | ((with_reducible refine gate_callee (f := 19) rfl ?_); refine goesL_ (some 26) rfl rfl Try.func19 (by kernel_rfl) rfl #[.int .i64 a1, .string a0] rfl (by (try simp only [List.map_toArray, List.map_cons, List.map_nil]); first | done | rfl | (simp only [List.length_drop, List.length_take]; rfl)) ?_; (with_reducible refine (types_Chan.calls k a1 a0 t148 t149 _ A5.out).mono ?_); rintro e w' ⟨rfl, ⟨nd, rfl⟩⟩; refine ⟨_, rfl, ?_⟩) | ((with_reducible refine gate_callee (f := 17) rfl ?_); refine goesL_ (some 32) rfl rfl Try.func17 (by kernel_rfl) rfl #[.string a0] rfl (by (try simp only [List.map_toArray, List.map_cons, List.map_nil]); first | done | rfl | (simp only [List.length_drop, List.length_take]; rfl)) ?_; (with_reducible refine (types_Right.calls k a0 t150 _ A32.out).mono ?_); rintro e w' ⟨rfl, ⟨nd, rfl⟩⟩; refine ⟨_, rfl, ?_⟩))
        go_ret
        exact ⟨by first | rfl | (simp; done) | (simp [*]; done), by repeat (first | exact Drawn0.refl _ | apply Drawn0.step)⟩
  · replace c4 := Bool.eq_false_iff.mpr c4
    subst c4
    have H1 : (some false) = some r := by rw [if_neg (show ¬ (false = true) by decide)] at H; exact H
    clear H
    have H := H1
    clear H1
    obtain rfl := Option.some.inj H
    go_enter Try.func5, Try.ntmps5
    go_wp2_with (first | ((with_reducible refine gate_callee (f := 17) rfl ?_); refine goesL_ (some 20) rfl rfl Try.func17 (by kernel_rfl) rfl #[.string (⟨#[105, 110, 116]⟩ : ByteArray)] rfl (by (try simp only [List.map_toArray, List.map_cons, List.map_nil]); first | done | rfl | (simp only [List.length_drop, List.length_take]; rfl)) ?_; (with_reducible refine (types_Right.calls k (⟨#[105, 110, 116]⟩ : ByteArray) false _ A3.out).mono ?_); rintro e w' ⟨rfl, ⟨nd, rfl⟩⟩; refine ⟨_, rfl, ?_⟩))
    go_ret
    exact ⟨by first | rfl | (simp; done) | (simp [*]; done), by repeat (first | exact Drawn0.refl _ | apply Drawn0.step)⟩

/-- THE ONE PURE STATEMENT of drowselaw04_TypesBack: yours. -/
def drowselaw04_TypesBack.Pure : Prop := ∀ (a0 : ByteArray) (a1 : Int), a0.size ≤ 140737488351232 → (Lit.int .i64 a1).wf = true → ∃ k, drowselaw04_TypesBack.f k a0 a1 = some true
theorem drowselaw04_TypesBack.walk (P : drowselaw04_TypesBack.Pure) (a0 : ByteArray) (a1 : Int) (w : World) (w0 : a0.size ≤ 140737488351232) (w1 : (Lit.int .i64 a1).wf = true) :
    Calls Try.prog 5 #[.string a0, .int .i64 a1] w fun e w' => e = .returned (.bool true) ∧ Below w.heap.size w w' := by
  obtain ⟨k, h⟩ := P a0 a1 w0 w1
  refine (drowselaw04_TypesBack.calls k a0 a1 true w h).mono ?_
  rintro e w' ⟨rfl, hd⟩
  exact ⟨rfl, hd.below⟩

end Go.Proofs.Ytddagoihchlihaa.PTypesBack
