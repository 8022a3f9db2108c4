/-
  Lots: Choose, and the document's Heaviest and Choose.
-/
import Derived.Test.YtplejggfeehbcaaLotA
import Derived.Test.YtplejggfeehbcaaFigC
import Derived.Deep.DeepCutAuto
import Derived.Deep.CutBlock
namespace Go.Proofs.Ytplejggfeehbcaa
open Go.RowKit
set_option linter.unusedSimpArgs false

def chooseV (p : Int) (xs : List Nat) (n : Int) : Int := if xs.length = 0 then pickV p n else heavyV xs n

set_option maxHeartbeats 1000000 in
theorem choose_c (p : Int) (A : Option Addr) (k c : Nat) (xs : List Nat) (n : Int) (w : World) (h : Fs w A k xs) (hkc : k ≤ c) (hA : A = none → k = 0 ∧ c = 0) (hk : k ≤ 17592186044300) (hp : -9223372036854775808 ≤ p ∧ p ≤ 9223372036854775807) (hn : n ≤ 9223372036854775807) :
    Calls Try.prog 56 #[.agg #[.int .i64 p, .slice A k c], .int .i64 n] w fun e w' => e = .returned (.int .i64 (chooseV p xs n)) ∧ Below w.heap.size w w' := by
  by_cases h0 : k = 0
  · have HV : Hid (chooseV p xs n = pickV p n) := Lib.hid (if_pos (by rw [h.len, h0]))
    have C := Lib.hid (fun w => pick_c p n w hp hn)
    subst h0
    clear h hkc hA
    go_enter Try.func56, Try.ntmps56
    go_wp2_with (go_at_call 55; refine (C.out _).mono ?_; rintro e w1 ⟨rfl, rfl⟩)
    go_ret
    exact ⟨by rw [HV.out]; rfl, (Below.refl _ _).alloc (Nat.le_refl _) _⟩
  · have e0 : ((k : Int) == 0) = false := beq_eq_false_iff_ne.2 (by omega)
    have HV : Hid (chooseV p xs n = heavyV xs n) := Lib.hid (if_neg (by rw [h.len]; exact h0))
    have C := Lib.hid (fun o => heavy_c A k c xs n (w.alloc o) (h.alloc o) hkc hA hk hn)
    clear h hkc hA h0
    go_enter Try.func56, Try.ntmps56
    go_wp2_with (go_at_call 59; refine (C.out _).mono ?_; rintro e w1 ⟨rfl, hb⟩; have HB := Lib.hid hb; clear hb)
    go_ret
    exact ⟨by rw [HV.out]; rfl, ((Below.refl _ _).alloc (Nat.le_refl _) _).trans (HB.out.mono (by show _ ≤ (w.heap.push _).size; rw [Array.size_push]; omega))⟩

theorem padL_len (xs : List Nat) (n : Int) (h1 : ¬ n < 1) : ((padL xs n).length : Int) = if (xs.length : Int) + 1 > n then n else (xs.length : Int) + 1 := by
  unfold padL
  by_cases h : n ≤ xs.length
  · rw [if_pos h, if_pos (by omega), List.length_take]; omega
  · rw [if_neg h, List.length_append, List.length_singleton]
    split <;> omega
theorem padL_get (xs : List Nat) (n : Int) (k : Nat) (h : k < (padL xs n).length) : (padL xs n).getD k 0 = xs.getD k 0 := by
  unfold padL at *
  by_cases h2 : n ≤ xs.length
  · rw [if_pos h2] at *
    rw [List.length_take] at h
    simp [List.getD_eq_getElem?_getD, show k < n.toNat by omega]
  · rw [if_neg h2] at *
    rw [List.length_append, List.length_singleton] at h
    by_cases h3 : k < xs.length
    · simp [List.getD_eq_getElem?_getD, List.getElem?_append_left h3]
    · have : k = xs.length := by omega
      subst this
      simp [List.getD_eq_getElem?_getD]
theorem heavyV_best (xs : List Nat) (n : Int) (h1 : ¬ n < 1) : heavyV xs n = if bestAt (padL xs n) 1 (padL xs n).length < 0 then 0 else bestAt (padL xs n) 1 (padL xs n).length := by
  unfold heavyV
  rw [if_neg h1]
  unfold bestV
  split
  · rfl
  · show max (bestAt _ _ _) 0 = _; omega

set_option maxHeartbeats 2000000 in
set_option maxRecDepth 100000 in
theorem refHeavy_c (A : Option Addr) (k c : Nat) (xs : List Nat) (n : Int) (w : World) (h : Fs w A k xs) (hk : k ≤ 17592186044300) (_hn : n ≤ 9223372036854775807) :
    Calls Try.prog 60 #[.slice A k c, .int .i64 n] w fun e w' => e = .returned (.int .i64 (heavyV xs n)) ∧ Drw w w' := by
  have HL := Lib.hid h.len
  have HW := Lib.hid h.word
  obtain ⟨ad, hc⟩ := h.get
  have HC := Lib.hid hc
  by_cases h1 : n < 1
  · have HV : Hid (heavyV xs n = -1) := Lib.hid (if_pos h1)
    clear h hc
    go_enter Try.func60, Try.ntmps60
    go_wp2
    go_ret
    exact ⟨by rw [HV.out]; rfl, Drw.refl _⟩
  · have HV := Lib.hid (heavyV_best xs n h1)
    have HP := Lib.hid (padL_get xs n)
    have hm := padL_len xs n h1
    rw [h.len] at hm
    obtain ⟨ps, hps⟩ : ∃ ps, padL xs n = ps := ⟨_, rfl⟩
    rw [hps] at HV HP hm
    obtain ⟨m, hpm⟩ : ∃ m, ps.length = m := ⟨_, rfl⟩
    rw [hpm] at HV HP hm
    have hm1 : m ≤ k + 1 := by split at hm <;> omega
    have HM := Lib.hid hm
    clear h hc hps hpm hm
    go_enter Try.func60, Try.ntmps60
    go_upto_if 17 with (fail)
    go_cut [5] (fun v wc => v = .int .i64 m ∧ wc = w)
    case first =>
      by_cases g : (k : Int) + 1 > n
      · have hmm := HM.out
        rw [if_pos g] at hmm
        have HMM := Lib.hid hmm
        clear hmm
        go_wp2
        go_meet
        case rel => exact ⟨by rw [HMM.out], rfl⟩
      · have hmm := HM.out
        rw [if_neg g] at hmm
        have HMM := Lib.hid hmm
        clear hmm
        go_wp2
        go_meet
        case rel => exact ⟨by rw [HMM.out], rfl⟩
    case rest =>
      obtain ⟨rfl, rfl⟩ := hcut
      go_wp2_with fail
      go_loop [6, 7, 8] (fun a b i => ∃ (j bw : Nat), j ≤ m ∧ i = .int .i64 j ∧ a = .int .i64 (bestAt ps 1 j) ∧ b = .float .f64 bw ∧ bw < 18446744073709551616 ∧ (0 ≤ bestAt ps 1 j → bw = ps.getD (bestAt ps 1 j).toNat 0)) (fun _ _ i => m - (intOf i).toNat)
      case atStart => exact ⟨0, 0, by omega, rfl, rfl, rfl, by decide, fun h => absurd h (by show ¬ (0 : Int) ≤ -1; omega)⟩
      case round =>
        obtain ⟨j, bw, hj, rfl, rfl, rfl, hbw, hbe⟩ := hrel
        have tb := bestAt_bounds ps 1 j
        by_cases hlt : j < m
        · obtain ⟨x, hx⟩ : ∃ x, ps.getD j 0 = x := ⟨_, rfl⟩
          have hnext : bestAt ps 1 (j + 1) = if Fl.nan x = false ∧ (bestAt ps 1 j < 0 ∨ Fl.ordV x (ps.getD (bestAt ps 1 j).toNat 0) = 1) then (j : Int) else bestAt ps 1 j := by rw [bestAt, hx]
          have hxs : xs.getD j 0 = x := by rw [← hx]; exact (HP.out j hlt).symm
          have wx := HW.out j
          rw [hxs] at wx
          obtain ⟨t, ht⟩ : ∃ t, bestAt ps 1 j = t := ⟨_, rfl⟩
          rw [ht] at tb hnext hbe ⊢
          have HX := Lib.hid hx
          have HT := Lib.hid ht
          have HBE := Lib.hid hbe
          clear hx ht hbe
          go_upto_if 27 with (fail)
          go_cut [9] (fun v wd => v = .float .f64 x ∧ wd = wc)
          case first =>
            by_cases hjk : j < k
            · obtain ⟨hA, hcell⟩ := HC.out (by omega)
              have cx := hcell j hjk
              rw [hxs] at cx
              subst hA
              clear hcell
              go_wp2
              go_meet
              case rel => exact ⟨rfl, rfl⟩
            · have h0 : x = 0 := by
                rw [← hxs, List.getD_eq_getElem?_getD, List.getElem?_eq_none (by rw [HL.out]; omega)]
                rfl
              have HX0 := Lib.hid h0
              clear h0
              go_wp2
              go_meet
              case rel => exact ⟨by rw [HX0.out], rfl⟩
          case rest =>
          obtain ⟨rfl, rfl⟩ := hcut
          clear hxs
          cases hnx : Fl.nan x with
          | true =>
            have he : (Fl.F.order x x == some .eq) = false := by rw [Fl.eql, Fl.eqB_self, hnx]; rfl
            rw [hnx] at hnext
            have HE := Lib.hid hnext
            clear hnext hnx
            go_wp2
            go_round
            case rel => exact ⟨j + 1, bw, by omega, by go_num, by rw [HE.out]; simp, rfl, hbw, by rw [HE.out]; simpa using HBE.out⟩
            case measure => simp [intOf]; omega
          | false =>
            have he : (Fl.F.order x x == some .eq) = true := by rw [Fl.eql, Fl.eqB_self, hnx]; rfl
            rw [hnx] at hnext
            clear hnx
            by_cases ht0 : t < 0
            · have d0 : decide (t < 0) = true := decide_eq_true ht0
              have HE := Lib.hid (hnext.trans (if_pos ⟨rfl, .inl ht0⟩))
              clear hnext ht0
              go_wp2
              go_round
              case rel => exact ⟨j + 1, x, by omega, by go_num, by rw [HE.out], rfl, wx, fun _ => by rw [HE.out]; exact HX.out.symm⟩
              case measure => simp [intOf]; omega
            · have d0 : decide (t < 0) = false := decide_eq_false ht0
              have CO := Lib.hid (refOrder_c x bw wx hbw)
              rw [← HBE.out (by omega)] at hnext
              obtain ⟨o, ho⟩ : ∃ o, Fl.ordV x bw = o := ⟨_, rfl⟩
              have hoc : o = -1 ∨ o = 0 ∨ o = 1 := by rw [← ho]; unfold Fl.ordV; split <;> (try split) <;> simp
              rw [ho] at hnext CO
              clear ho ht0
              by_cases hw2 : o = 1
              · have d1 : decide (o > 0) = true := decide_eq_true (by omega)
                have HE := Lib.hid (hnext.trans (if_pos ⟨rfl, .inr hw2⟩))
                subst hw2
                clear hnext d1 hoc
                go_wp2_with (go_at_call 31; refine (CO.out _).mono ?_; rintro e w' ⟨rfl, rfl⟩)
                go_round
                case rel => exact ⟨j + 1, x, by omega, by go_num, by rw [HE.out], rfl, wx, fun _ => by rw [HE.out]; exact HX.out.symm⟩
                case measure => simp [intOf]; omega
              · have d1 : ¬ (0 : Int) < o := by omega
                have HE := Lib.hid (hnext.trans (if_neg (by rintro ⟨_, h | h⟩; · simp [h] at d0
                                                            · exact hw2 h)))
                clear hnext hw2 hoc
                go_wp2_with (go_at_call 31; refine (CO.out _).mono ?_; rintro e w' ⟨rfl, rfl⟩)
                go_round
                case rel => exact ⟨j + 1, bw, by omega, by go_num, by rw [HE.out], rfl, hbw, by rw [HE.out]; exact HBE.out⟩
                case measure => simp [intOf]; omega
        · have hjm : j = m := by omega
          subst hjm
          obtain ⟨t, ht⟩ : ∃ t, bestAt ps 1 j = t := ⟨_, rfl⟩
          rw [ht] at HV tb ⊢
          clear ht hbe
          by_cases g : t < 0
          · rw [if_pos g] at HV
            go_wp2
            go_ret
            exact ⟨by rw [HV.out]; rfl, Drw.refl _⟩
          · rw [if_neg g] at HV
            go_wp2
            go_ret
            exact ⟨by rw [HV.out]; rfl, Drw.refl _⟩

set_option maxHeartbeats 1000000 in
theorem refChoose_c (p : Int) (A : Option Addr) (k c : Nat) (xs : List Nat) (n : Int) (w : World) (h : Fs w A k xs) (hk : k ≤ 17592186044300) (hp : -9223372036854775808 ≤ p ∧ p ≤ 9223372036854775807) (hn : n ≤ 9223372036854775807) :
    Calls Try.prog 61 #[.agg #[.int .i64 p, .slice A k c], .int .i64 n] w fun e w' => e = .returned (.int .i64 (chooseV p xs n)) ∧ Below w.heap.size w w' := by
  by_cases h0 : k = 0
  · have HV : Hid (chooseV p xs n = pickV p n) := Lib.hid (if_pos (by rw [h.len, h0]))
    have C := Lib.hid (fun w => refPick_c p n w hp hn)
    subst h0
    clear h
    go_enter Try.func61, Try.ntmps61
    go_wp2_with (go_at_call 57; refine (C.out _).mono ?_; rintro e w1 ⟨rfl, rfl⟩)
    go_ret
    exact ⟨by rw [HV.out]; rfl, (Below.refl _ _).alloc (Nat.le_refl _) _⟩
  · have e0 : (0 : Int) < (k : Int) := by omega
    have HV : Hid (chooseV p xs n = heavyV xs n) := Lib.hid (if_neg (by rw [h.len]; exact h0))
    have C := Lib.hid (fun o => refHeavy_c A k c xs n (w.alloc o) (h.alloc o) hk hn)
    clear h h0
    go_enter Try.func61, Try.ntmps61
    go_wp2_with (go_at_call 60; refine (C.out _).mono ?_; rintro e w1 ⟨rfl, ⟨d, rfl⟩⟩)
    go_ret
    exact ⟨by rw [HV.out]; rfl, below_drewN ((Below.refl _ _).alloc (Nat.le_refl _) _) _⟩
end Go.Proofs.Ytplejggfeehbcaa
