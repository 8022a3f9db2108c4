/-
  tally.Value: the loop over all keys' fields.
-/
import Derived.Test.YtfiimmbpfdpjfaaTalA
import Derived.Test.YtfiimmbpfdpjfaaLotD
import Derived.Outline
namespace Go.Proofs.Ytfiimmbpfdpjfaa
open Go.RowKit
set_option linter.unusedSimpArgs false

/-- what the i-th field's function makes of a goroutine -/
def fieldV (s : St) : Nat → Nat
  | 0 => floatOfInt .f64 s.be
  | 1 => floatOfInt .f64 s.di
  | 2 => floatOfInt .f64 s.pa
  | 3 => floatOfInt .f64 s.wa
  | _ => ratioV s.wa s.di
theorem valueV_field (s : St) (i : Nat) (hi : i < 5) : valueV s ((i : Int) + 1) = fieldV s i := by
  match i, hi with
  | 0, _ => unfold valueV; rw [if_pos (by decide)]; rfl
  | 1, _ => unfold valueV; rw [if_neg (by decide), if_pos (by decide)]; rfl
  | 2, _ => unfold valueV; rw [if_neg (by decide), if_neg (by decide), if_pos (by decide)]; rfl
  | 3, _ => unfold valueV; rw [if_neg (by decide), if_neg (by decide), if_neg (by decide), if_pos (by decide)]; rfl
  | 4, _ => unfold valueV; rw [if_neg (by decide), if_neg (by decide), if_neg (by decide), if_neg (by decide), if_pos (by decide)]; rfl
theorem valueV_none (s : St) (k : Int) (h : ∀ i : Nat, i < 5 → k ≠ (i : Int) + 1) : valueV s k = theNan := by
  have h0 := h 0 (by decide)
  have h1 := h 1 (by decide)
  have h2 := h 2 (by decide)
  have h3 := h 3 (by decide)
  have h4 := h 4 (by decide)
  unfold valueV
  rw [if_neg (by omega), if_neg (by omega), if_neg (by omega), if_neg (by omega), if_neg (by omega)]

set_option maxHeartbeats 4000000 in
theorem value_c (s : St) (k : Int) (w : World) : Calls Try.prog 14 #[.agg #[.int .i64 s.ser, .string s.fn, .int .i64 s.be, .int .i64 s.di, .int .i64 s.pa, .int .i64 s.wa, .bool s.fin], .int .i64 k] w fun e w' => e = .returned (.float .f64 (valueV s k)) ∧ Below w.heap.size w w' := by
  obtain ⟨v0, v1, v2, v3, v4, v5, v6⟩ := s
  have HVF := Lib.hid (valueV_field ⟨v0, v1, v2, v3, v4, v5, v6⟩)
  have HVN := Lib.hid (valueV_none ⟨v0, v1, v2, v3, v4, v5, v6⟩)
  obtain ⟨F, hF⟩ : ∃ F : Nat → Nat, fieldV ⟨v0, v1, v2, v3, v4, v5, v6⟩ = F := ⟨_, rfl⟩
  rw [hF] at HVF
  have C1 := Lib.hid (field1_c ⟨v0, v1, v2, v3, v4, v5, v6⟩)
  have C2 := Lib.hid (field2_c ⟨v0, v1, v2, v3, v4, v5, v6⟩)
  have C3 := Lib.hid (field3_c ⟨v0, v1, v2, v3, v4, v5, v6⟩)
  have C4 := Lib.hid (field4_c ⟨v0, v1, v2, v3, v4, v5, v6⟩)
  have C5 := Lib.hid (field5_c ⟨v0, v1, v2, v3, v4, v5, v6⟩)
  have C0 := Lib.hid (ratio_c 0 0)
  rw [show floatOfInt .f64 (St.mk v0 v1 v2 v3 v4 v5 v6).be = F 0 by rw [← hF]; rfl] at C1
  rw [show floatOfInt .f64 (St.mk v0 v1 v2 v3 v4 v5 v6).di = F 1 by rw [← hF]; rfl] at C2
  rw [show floatOfInt .f64 (St.mk v0 v1 v2 v3 v4 v5 v6).pa = F 2 by rw [← hF]; rfl] at C3
  rw [show floatOfInt .f64 (St.mk v0 v1 v2 v3 v4 v5 v6).wa = F 3 by rw [← hF]; rfl] at C4
  rw [show ratioV (St.mk v0 v1 v2 v3 v4 v5 v6).wa (St.mk v0 v1 v2 v3 v4 v5 v6).di = F 4 by rw [← hF]; rfl] at C5
  rw [ratio_none] at C0
  generalize valueV ⟨v0, v1, v2, v3, v4, v5, v6⟩ = V at *
  clear hF
  go_enter Try.func14, Try.ntmps14
  have hR0 := Row.new w 38 [.int .i64 v0, .string v1, .int .i64 v2, .int .i64 v3, .int .i64 v4, .int .i64 v5, .bool v6]
  have hB0 : Below w.heap.size w (w.alloc (.cells #[.int .i64 v0, .string v1, .int .i64 v2, .int .i64 v3, .int .i64 v4, .int .i64 v5, .bool v6] 38)) := (Below.refl _ _).alloc (Nat.le_refl _) _
  change Row (w.alloc (.cells #[.int .i64 v0, .string v1, .int .i64 v2, .int .i64 v3, .int .i64 v4, .int .i64 v5, .bool v6] 38)) _ _ _ at hR0
  go_wp2_with fail
  generalize w.alloc (.cells #[.int .i64 v0, .string v1, .int .i64 v2, .int .i64 v3, .int .i64 v4, .int .i64 v5, .bool v6] 38) = w1 at *
  refine (fields_c w1).mono ?_
  rintro e w2 ⟨rfl, rfl⟩
  have hR1 := hR0.alloc (.cells fieldCells.toArray 57)
  have hRf := Row.new w1 57 fieldCells
  have hB1 : Below w.heap.size w (w1.alloc (.cells fieldCells.toArray 57)) := hB0.alloc hB0.size _
  generalize w1.alloc (.cells fieldCells.toArray 57) = w2 at *
  obtain ⟨z, hz⟩ : ∃ z, w.heap.size = z := ⟨_, rfl⟩
  obtain ⟨y, hy⟩ : ∃ y, w1.heap.size = y := ⟨_, rfl⟩
  have HZ := Lib.hid hz
  rw [hz] at hR1 ⊢
  rw [hy] at hRf ⊢
  have HR1 := Lib.hid hR1
  have HRf := Lib.hid hRf
  have HB1 := Lib.hid hB1
  clear hR0 hB0 hR1 hRf hB1 hz hy
  go_wp2_with fail
  go_loopw [9] (fun i wr => ∃ j : Nat, j ≤ 5 ∧ i = .int .i64 j ∧ Hid (∀ i : Nat, i < j → k ≠ (i : Int) + 1) ∧ Below w2.heap.size w2 wr) (fun i _ => 5 - (intOf i).toNat)
  case atStart => exact ⟨0, by omega, rfl, Lib.hid (fun i hi => absurd hi (Nat.not_lt_zero i)), Below.refl _ _⟩
  case round =>
    obtain ⟨j, hj, rfl, HJ, hB⟩ := hrel
    have hR1 := HR1.out.grown hB
    have hRf := HRf.out.grown hB
    have HBw : Hid (Below w.heap.size w wr) := Lib.hid (HB1.out.trans (hB.mono HB1.out.size))
    have hrl := hB.size
    have hA : ∀ o, Below wr.heap.size wr (wr.alloc o) := fun o => (Below.refl _ _).alloc (Nat.le_refl _) _
    have s0 : ∀ o, (wr.alloc o).cell? ⟨z, 0, none⟩ = some (.int .i64 v0) := fun o => (hR1.alloc o).cell 0
    have s1 : ∀ o, (wr.alloc o).cell? ⟨z, 1, none⟩ = some (.string v1) := fun o => (hR1.alloc o).cell 1
    have s2 : ∀ o, (wr.alloc o).cell? ⟨z, 2, none⟩ = some (.int .i64 v2) := fun o => (hR1.alloc o).cell 2
    have s3 : ∀ o, (wr.alloc o).cell? ⟨z, 3, none⟩ = some (.int .i64 v3) := fun o => (hR1.alloc o).cell 3
    have s4 : ∀ o, (wr.alloc o).cell? ⟨z, 4, none⟩ = some (.int .i64 v4) := fun o => (hR1.alloc o).cell 4
    have s5 : ∀ o, (wr.alloc o).cell? ⟨z, 5, none⟩ = some (.int .i64 v5) := fun o => (hR1.alloc o).cell 5
    have s6 : ∀ o, (wr.alloc o).cell? ⟨z, 6, none⟩ = some (.bool v6) := fun o => (hR1.alloc o).cell 6
    have HBr := Lib.hid hB
    have HR1' := Lib.hid hR1
    by_cases hlt : j < 5
    · obtain rfl | rfl | rfl | rfl | rfl : j = 0 ∨ j = 1 ∨ j = 2 ∨ j = 3 ∨ j = 4 := by omega
      · have c0 : wr.cell? ⟨y, 0, none⟩ = some (.int .i64 1) := hRf.cell 0
        have c1 : wr.cell? ⟨y, 1, none⟩ = some (.func (.func 39) #[] #[]) := hRf.cell 1
        clear hB hR1 hRf hA
        by_cases hk : k = 1
        · have HV : Hid (V 1 = F 0) := Lib.hid (HVF.out 0 (by decide))
          have e1 : ((1 : Int) == 1) = true := rfl
          subst hk
          go_wp2_with (go_at_call 39; refine (C1.out _).mono ?_; rintro e w3 ⟨rfl, hb3⟩; have HB3 := Lib.hid hb3; clear hb3)
          go_ret
          exact ⟨by rw [HV.out]; rfl, (HBw.out.alloc HBw.out.size _).trans (HB3.out.mono (by have := HBw.out.size; show _ ≤ (wr.heap.push _).size; rw [Array.size_push]; omega))⟩
        · have e1 : ((1 : Int) == k) = false := beq_eq_false_iff_ne.2 (Ne.symm hk)
          go_wp2
          go_roundw
          case rel => exact ⟨1, by omega, by go_num, Lib.hid (fun i hi => by rcases Nat.lt_or_ge i 0 with h | h; exact HJ.out i h; (have : i = 0 := by omega); subst this; exact hk), HBr.out.alloc HBr.out.size _⟩
          case measure => simp [intOf]
      · have c0 : wr.cell? ⟨y, 2, none⟩ = some (.int .i64 2) := hRf.cell 2
        have c1 : wr.cell? ⟨y, 3, none⟩ = some (.func (.func 40) #[] #[]) := hRf.cell 3
        clear hB hR1 hRf hA
        by_cases hk : k = 2
        · have HV : Hid (V 2 = F 1) := Lib.hid (HVF.out 1 (by decide))
          have e1 : ((2 : Int) == 2) = true := rfl
          subst hk
          go_wp2_with (go_at_call 40; refine (C2.out _).mono ?_; rintro e w3 ⟨rfl, hb3⟩; have HB3 := Lib.hid hb3; clear hb3)
          go_ret
          exact ⟨by rw [HV.out]; rfl, (HBw.out.alloc HBw.out.size _).trans (HB3.out.mono (by have := HBw.out.size; show _ ≤ (wr.heap.push _).size; rw [Array.size_push]; omega))⟩
        · have e1 : ((2 : Int) == k) = false := beq_eq_false_iff_ne.2 (Ne.symm hk)
          go_wp2
          go_roundw
          case rel => exact ⟨2, by omega, by go_num, Lib.hid (fun i hi => by rcases Nat.lt_or_ge i 1 with h | h; exact HJ.out i h; (have : i = 1 := by omega); subst this; exact hk), HBr.out.alloc HBr.out.size _⟩
          case measure => simp [intOf]
      · have c0 : wr.cell? ⟨y, 4, none⟩ = some (.int .i64 3) := hRf.cell 4
        have c1 : wr.cell? ⟨y, 5, none⟩ = some (.func (.func 41) #[] #[]) := hRf.cell 5
        clear hB hR1 hRf hA
        by_cases hk : k = 3
        · have HV : Hid (V 3 = F 2) := Lib.hid (HVF.out 2 (by decide))
          have e1 : ((3 : Int) == 3) = true := rfl
          subst hk
          go_wp2_with (go_at_call 41; refine (C3.out _).mono ?_; rintro e w3 ⟨rfl, hb3⟩; have HB3 := Lib.hid hb3; clear hb3)
          go_ret
          exact ⟨by rw [HV.out]; rfl, (HBw.out.alloc HBw.out.size _).trans (HB3.out.mono (by have := HBw.out.size; show _ ≤ (wr.heap.push _).size; rw [Array.size_push]; omega))⟩
        · have e1 : ((3 : Int) == k) = false := beq_eq_false_iff_ne.2 (Ne.symm hk)
          go_wp2
          go_roundw
          case rel => exact ⟨3, by omega, by go_num, Lib.hid (fun i hi => by rcases Nat.lt_or_ge i 2 with h | h; exact HJ.out i h; (have : i = 2 := by omega); subst this; exact hk), HBr.out.alloc HBr.out.size _⟩
          case measure => simp [intOf]
      · have c0 : wr.cell? ⟨y, 6, none⟩ = some (.int .i64 4) := hRf.cell 6
        have c1 : wr.cell? ⟨y, 7, none⟩ = some (.func (.func 42) #[] #[]) := hRf.cell 7
        clear hB hR1 hRf hA
        by_cases hk : k = 4
        · have HV : Hid (V 4 = F 3) := Lib.hid (HVF.out 3 (by decide))
          have e1 : ((4 : Int) == 4) = true := rfl
          subst hk
          go_wp2_with (go_at_call 42; refine (C4.out _).mono ?_; rintro e w3 ⟨rfl, hb3⟩; have HB3 := Lib.hid hb3; clear hb3)
          go_ret
          exact ⟨by rw [HV.out]; rfl, (HBw.out.alloc HBw.out.size _).trans (HB3.out.mono (by have := HBw.out.size; show _ ≤ (wr.heap.push _).size; rw [Array.size_push]; omega))⟩
        · have e1 : ((4 : Int) == k) = false := beq_eq_false_iff_ne.2 (Ne.symm hk)
          go_wp2
          go_roundw
          case rel => exact ⟨4, by omega, by go_num, Lib.hid (fun i hi => by rcases Nat.lt_or_ge i 3 with h | h; exact HJ.out i h; (have : i = 3 := by omega); subst this; exact hk), HBr.out.alloc HBr.out.size _⟩
          case measure => simp [intOf]
      · have c0 : wr.cell? ⟨y, 8, none⟩ = some (.int .i64 5) := hRf.cell 8
        have c1 : wr.cell? ⟨y, 9, none⟩ = some (.func (.func 43) #[] #[]) := hRf.cell 9
        clear hB hR1 hRf hA
        by_cases hk : k = 5
        · have HV : Hid (V 5 = F 4) := Lib.hid (HVF.out 4 (by decide))
          have e1 : ((5 : Int) == 5) = true := rfl
          subst hk
          go_wp2_with (go_at_call 43; refine (C5.out _).mono ?_; rintro e w3 ⟨rfl, hb3⟩; have HB3 := Lib.hid hb3; clear hb3)
          go_ret
          exact ⟨by rw [HV.out]; rfl, (HBw.out.alloc HBw.out.size _).trans (HB3.out.mono (by have := HBw.out.size; show _ ≤ (wr.heap.push _).size; rw [Array.size_push]; omega))⟩
        · have e1 : ((5 : Int) == k) = false := beq_eq_false_iff_ne.2 (Ne.symm hk)
          go_wp2
          go_roundw
          case rel => exact ⟨5, by omega, by go_num, Lib.hid (fun i hi => by rcases Nat.lt_or_ge i 4 with h | h; exact HJ.out i h; (have : i = 4 := by omega); subst this; exact hk), HBr.out.alloc HBr.out.size _⟩
          case measure => simp [intOf]
    · have hj5 : j = 5 := by omega
      subst hj5
      have HV : Hid (V k = theNan) := Lib.hid (HVN.out k HJ.out)
      clear hB hR1 hRf hA s0 s1 s2 s3 s4 s5 s6
      go_wp2_with (go_at_call 23; refine (C0.out _).mono ?_; rintro e w3 ⟨rfl, d, rfl⟩)
      go_ret
      exact ⟨by rw [HV.out]; rfl, below_drewN HBw.out _⟩
end Go.Proofs.Ytfiimmbpfdpjfaa
