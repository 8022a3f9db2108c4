/-
  insertionSort of a list of places.
-/
import Derived.Test.YtmkbbfcecolobaaSrtD
namespace Go.Proofs.Ytmkbbfcecolobaa
open Go.RowKit Srt
set_option linter.unusedSimpArgs false

abbrev cmpV (bx : Nat) : Value := .func (.func 33) #[] #[.pointer (some ⟨bx, 0, none⟩)]
/-- a function that compares two places by their keys -/
structure Cmp (g : Nat) (w : World) (bx N : Nat) (K : Nat → Nat) (o : Nat → Nat → Int) : Prop where
  call : ∀ w', Chg g w w' → ∀ x y, x < N → y < N → Calls Try.prog 33 #[.int .i64 (x : Nat), .int .i64 (y : Nat), .pointer (some ⟨bx, 0, none⟩)] w' fun e w'' => e = .returned (.int .i64 (o x y)) ∧ ∃ n, w'' = w'.drewN n
  lt : ∀ x y, x < N → y < N → (o x y < 0 ↔ K x < K y)
theorem Cmp.next {g : Nat} {w w' : World} {bx N : Nat} {K : Nat → Nat} {o : Nat → Nat → Int} (h : Cmp g w bx N K o) (hc : Chg g w w') : Cmp g w' bx N K o := ⟨fun w2 h2 => h.call w2 (hc.trans h2), h.lt⟩
theorem drewN_drewN (w : World) (a b : Nat) : (w.drewN a).drewN b = w.drewN (a + b) := by simp [World.drewN, Nat.add_assoc]
set_option maxHeartbeats 2000000 in
theorem ins_c (g N c a b bx : Nat) (f : Nat → Nat) (K : Nat → Nat) (o : Nat → Nat → Int) (w : World) (h : Arr w g N f) (hc : Cmp g w bx N K o) (hab : a ≤ b) (hbN : b ≤ N) (hlt : ∀ k, k < N → f k < N) (hinc : ∀ i j, a ≤ i → i < j → j < b → f i < f j) :
    Calls Try.prog 56 #[.slice (some ⟨g, 0, none⟩) N c, .int .i64 a, .int .i64 b, cmpV bx] w fun e w' => e = .returned (.tuple #[]) ∧ ∃ f', Arr w' g N f' ∧ Mv a b f f' ∧ Sorted K f' a b ∧ Chg g w w' := by
  have hN := h.small
  have H0 := Lib.hid h
  have HC := Lib.hid hc
  have HL := Lib.hid hlt
  have HI := Lib.hid hinc
  clear h hc hlt hinc
  by_cases hb : b ≤ a + 1
  · have hd : decide ((a : Int) + 1 < (b : Int)) = false := decide_eq_false (by omega)
    go_enter Try.func56, Try.ntmps56
    go_wp2
    go_loopw [8] (fun i wr => i = .int .i64 ((a : Int) + 1) ∧ wr = w) (fun _ _ => 0)
    case atStart => exact ⟨rfl, rfl⟩
    case round =>
      obtain ⟨rfl, rfl⟩ := hrel
      go_wp2
      go_end0
      exact ⟨rfl, f, H0.out, Mv.refl _ _ _, sorted_one hb, Chg.refl _ _⟩
  · go_enter Try.func56, Try.ntmps56
    go_wp2
    go_loopw [8, 9] (fun x _ wr => ∃ (i : Nat) (f1 : Nat → Nat), a + 1 ≤ i ∧ i ≤ b ∧ x = .int .i64 i ∧ Arr wr g N f1 ∧ Mv a i f f1 ∧ Sorted K f1 a i ∧ Chg g w wr) (fun x _ _ => b - (intOf x).toNat)
    case atStart => exact ⟨a + 1, f, by omega, by omega, by go_num, H0.out, Mv.refl _ _ _, sorted_one (by omega), Chg.refl _ _⟩
    case round =>
      obtain ⟨i, f1, hi1, hi2, rfl, hA, hM, hS, hC⟩ := hrel
      have HA := Lib.hid hA
      have HM := Lib.hid hM
      have HS := Lib.hid hS
      have HG := Lib.hid hC
      clear hA hM hS hC
      by_cases hib : i < b
      · have hlow : ∀ k, a ≤ k → k < i → f1 k < f1 i := by
          intro k hk1 hk2
          obtain ⟨k', h1, h2, h3⟩ := HM.out.at_ k hk1 hk2
          rw [h3, HM.out.out i (by omega)]
          exact HI.out k' i h1 h2 hib
        have hlt1 : ∀ k, k < N → f1 k < N := by
          intro k hk
          obtain ⟨k', h1, h2, h3⟩ := (HM.out.mono (Nat.zero_le a) (show i ≤ N by omega)).at_ k (Nat.zero_le _) hk
          rw [h3]; exact HL.out k' h2
        have HLow := Lib.hid hlow
        have HL1 := Lib.hid hlt1
        clear hlow hlt1
        obtain ⟨wo, hwo⟩ : ∃ wo : World, wo = wr := ⟨_, rfl⟩
        subst hwo
        go_wp2
        go_loopw [9] (fun x wr => ∃ j : Nat, a ≤ j ∧ j ≤ i ∧ x = .int .i64 j ∧ Arr wr g N (rot f1 j i (i + 1)) ∧ (∀ k, j ≤ k → k < i → K (f1 i) < K (f1 k)) ∧ Chg g wo wr) (fun x _ => (intOf x).toNat)
        case atStart => exact ⟨i, by omega, by omega, rfl, HA.out.congr (rot_nothing' f1 i (i + 1)).symm, fun k h1 h2 => by omega, Chg.refl _ _⟩
        case round =>
          obtain ⟨j, hj1, hj2, rfl, hA2, hK2, hC2⟩ := hrel
          have HA2 := Lib.hid hA2
          have HK2 := Lib.hid hK2
          have HC2 := Lib.hid hC2
          clear hA2 hK2 hC2
          by_cases hja : a < j
          · have cx := HA2.out.cell j (by omega)
            have cy := HA2.out.cell (j - 1) (by omega)
            have fx := HA2.out.fro j (by omega)
            have fy := HA2.out.fro (j - 1) (by omega)
            have ex : rot f1 j i (i + 1) j = f1 i := by
              unfold rot; rw [if_pos (by omega)]; congr 1; omega
            have ey : rot f1 j i (i + 1) (j - 1) = f1 (j - 1) := by
              unfold rot; rw [if_neg (by omega), if_neg (by omega)]
            rw [ex] at cx
            rw [ey] at cy
            have hs := HA2.out.swap (i := j) (j := j - 1) (by omega) (by omega) (by omega)
            rw [ex, ey, rot_down f1 j i (by omega) hj2] at hs
            have mx := HL1.out i (by omega)
            have my := HL1.out (j - 1) (by omega)
            have CO := Lib.hid (fun w' h => HC.out.call w' h (f1 i) (f1 (j - 1)) mx my)
            have LT := HC.out.lt (f1 i) (f1 (j - 1)) mx my
            have hsj : ∀ k, a ≤ k → k < j → K (f1 k) ≤ K (f1 (j - 1)) := fun k h1 h2 => HS.out.key h1 (by omega) (by omega)
            obtain ⟨u, hu⟩ : ∃ u, f1 i = u := ⟨_, rfl⟩
            obtain ⟨v, hv⟩ : ∃ v, f1 (j - 1) = v := ⟨_, rfl⟩
            rw [hu] at cx hs CO LT mx
            rw [hv] at cy hs CO LT my hsj
            obtain ⟨y, hy⟩ : ∃ y, j = y + 1 := ⟨j - 1, by omega⟩
            subst hy
            simp only [Nat.add_sub_cancel] at *
            have HSw := Lib.hid hs
            have HU := Lib.hid hu
            have HV := Lib.hid hv
            have HSJ := Lib.hid hsj
            have HG2 : Hid (Chg g w wr) := Lib.hid (HG.out.trans HC2.out)
            clear ex ey hs hu hv hsj
            have g1 : decide ((a : Int) < ((y + 1 : Nat) : Int)) = true := decide_eq_true (by omega)
            have g2 : decide ((a : Int) < (y : Int) + 1) = true := decide_eq_true (by omega)
            have g3 : (a : Int) < (y : Int) + 1 := by omega
            by_cases ho : o u v < 0
            · have d1 : decide (o u v < 0) = true := decide_eq_true ho
              have HKlt := Lib.hid (LT.1 ho)
              clear LT
              go_wp2_with fail
              go_quiet ((go_at_call 33; refine (CO.out _ (HG2.out.trans (Chg.drewN g _ _))).mono ?_; rintro e w' ⟨rfl, n, rfl⟩; exact ⟨rfl, _, drewN_drewN _ _ _⟩))
              go_wp2_with fail
              go_region
              go_wp2
              go_roundw
              case rel =>
                refine ⟨y, by omega, by omega, by go_num, HSw.out.drewN _, fun k h1 h2 => ?_, ((HC2.out.trans (Chg.drewN g _ _)).trans (Chg.set g _ _ _)).trans (Chg.set g _ _ _)⟩
                by_cases hk : k = y
                · subst hk; rw [HU.out, HV.out]; exact HKlt.out
                · exact HK2.out k (by omega) h2
              case measure => simp [intOf] <;> omega
            · have d1 : decide (o u v < 0) = false := decide_eq_false ho
              have HKle : Hid (K v ≤ K u) := Lib.hid (by have := LT.2; omega)
              clear LT
              go_wp2_with fail
              go_quiet ((go_at_call 33; refine (CO.out _ (HG2.out.trans (Chg.drewN g _ _))).mono ?_; rintro e w' ⟨rfl, n, rfl⟩; exact ⟨rfl, _, drewN_drewN _ _ _⟩))
              go_wp2
              go_roundw
              case rel =>
                exact ⟨i + 1, rot f1 (y + 1) i (i + 1), by omega, by omega, by go_num, HA2.out.drewN _, (HM.out.mono (Nat.le_refl _) (by omega)).trans ((rot_mv f1 (by omega) (by omega)).mono (by omega) (by omega)),
                  insert_sorted HS.out HLow.out (by omega) (by omega) (fun k h1 h2 => Nat.le_trans (HSJ.out k h1 h2) (by rw [HU.out]; exact HKle.out)) HK2.out, (HG2.out.trans (Chg.drewN g _ _))⟩
              case measure => simp [intOf] <;> omega
          · have hja' : j = a := by omega
            subst hja'
            have g1 : decide ((j : Int) < (j : Int)) = false := decide_eq_false (by omega)
            go_wp2_with fail
            go_quiet (fail)
            go_wp2
            go_roundw
            case rel =>
              exact ⟨i + 1, rot f1 j i (i + 1), by omega, by omega, by go_num, HA2.out.drewN _, (HM.out.mono (Nat.le_refl _) (by omega)).trans (rot_mv f1 (by omega) (by omega)),
                insert_sorted HS.out HLow.out (by omega) (by omega) (fun k h1 h2 => by omega) HK2.out, (HG.out.trans HC2.out).trans (Chg.drewN g _ _)⟩
            case measure => simp [intOf] <;> omega
      · have hib' : i = b := by omega
        subst hib'
        go_wp2
        go_end0
        exact ⟨rfl, f1, HA.out, HM.out, HS.out, HG.out⟩
end Go.Proofs.Ytmkbbfcecolobaa
