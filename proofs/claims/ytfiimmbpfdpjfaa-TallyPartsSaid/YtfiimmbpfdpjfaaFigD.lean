/-
  figure.best, Least, Most: loops that read a slice of floats.
-/
import Derived.Test.YtfiimmbpfdpjfaaFigC
import Derived.Test.YtfiimmbpfdpjfaaMem
import Derived.LoopTactic
namespace Go.Proofs.Ytfiimmbpfdpjfaa
open Go.RowKit
set_option linter.unusedSimpArgs false

def bestAt (xs : List Nat) (way : Int) : Nat → Int
  | 0 => -1
  | k + 1 => if Fl.nan (xs.getD k 0) = false ∧ (bestAt xs way k < 0 ∨ Fl.ordV (xs.getD k 0) (xs.getD (bestAt xs way k).toNat 0) = way) then k else bestAt xs way k
theorem bestAt_bounds (xs : List Nat) (way : Int) (k : Nat) : -1 ≤ bestAt xs way k ∧ bestAt xs way k < k := by
  induction k with
  | zero => simp [bestAt]
  | succ k ih =>
    simp only [bestAt]
    split <;> omega
def bestV (xs : List Nat) (way : Int) : Nat × Int :=
  if bestAt xs way xs.length < 0 then (theNan, -1) else (xs.getD (bestAt xs way xs.length).toNat 0, bestAt xs way xs.length)

set_option maxHeartbeats 1000000 in
theorem best_c (A : Option Addr) (n c : Nat) (xs : List Nat) (way : Int) (w : World) (h : Fs w A n xs) :
    Calls Try.prog 44 #[.slice A n c, .int .i64 way] w fun e w' => e = .returned (.tuple #[.float .f64 (bestV xs way).1, .int .i64 (bestV xs way).2]) ∧ w = w' := by
  have hn := h.len
  have hs := h.small
  have HF := Lib.hid h
  by_cases h0 : n = 0
  · have e : bestV xs way = (theNan, -1) := by
      unfold bestV
      rw [hn, h0]
      rfl
    rw [e]
    subst h0
    clear h hn e HF hs
    go_enter Try.func44, Try.ntmps44
    go_wp2
    go_loop [6, 11] (fun t i => i = .int .i64 0 ∧ t = .int .i64 (-1)) (fun _ _ => 0)
    case atStart => exact ⟨rfl, rfl⟩
    case round =>
      obtain ⟨rfl, rfl⟩ := hrel
      go_wp2_with (go_at_call 30; refine (nan_c _).mono ?_; rintro e w' ⟨rfl, rfl⟩)
      go_ret2
      exact ⟨rfl, rfl⟩
  · obtain ⟨ad, rfl, hc⟩ := h.at_ (by omega)
    have HC := Lib.hid hc
    have HN := Lib.hid hn
    clear h hn hc
    go_enter Try.func44, Try.ntmps44
    go_wp2
    go_loop [6, 11] (fun t i => ∃ k : Nat, k ≤ n ∧ i = .int .i64 k ∧ t = .int .i64 (bestAt xs way k)) (fun _ i => n - (intOf i).toNat)
    case atStart => exact ⟨0, by omega, rfl, rfl⟩
    case round =>
      obtain ⟨k, hk, rfl, rfl⟩ := hrel
      have tb := bestAt_bounds xs way k
      by_cases hlt : k < n
      · have cx := HC.out k hlt
        have wx := HF.out.word k
        obtain ⟨x, hx⟩ : ∃ x, xs.getD k 0 = x := ⟨_, rfl⟩
        have hnext : bestAt xs way (k + 1) = if Fl.nan x = false ∧ (bestAt xs way k < 0 ∨ Fl.ordV x (xs.getD (bestAt xs way k).toNat 0) = way) then (k : Int) else bestAt xs way k := by rw [bestAt, hx]
        rw [hx] at cx wx
        obtain ⟨t, ht⟩ : ∃ t, bestAt xs way k = t := ⟨_, rfl⟩
        rw [ht] at tb hnext ⊢
        have HX := Lib.hid hx
        have HT := Lib.hid ht
        clear hx ht
        cases hnx : Fl.nan x with
        | true =>
          have he : (Fl.F.order x x == some .eq) = false := by rw [Fl.eql, Fl.eqB_self, hnx]; rfl
          rw [hnx] at hnext
          have HE := Lib.hid hnext
          clear hnext hnx
          go_wp2
          go_round
          case rel => exact ⟨k + 1, by omega, by go_num, by rw [HE.out]; simp⟩
          case measure => simp [intOf]; omega
        | false =>
          have he : (Fl.F.order x x == some .eq) = true := by rw [Fl.eql, Fl.eqB_self, hnx]; rfl
          rw [hnx] at hnext
          clear hnx
          by_cases ht0 : t < 0
          · have d0 : decide (t < 0) = true := decide_eq_true ht0
            have HE := Lib.hid (hnext.trans (if_pos ⟨rfl, .inl ht0⟩))
            clear hnext ht0
            go_wp2
            go_round
            case rel => exact ⟨k + 1, by omega, by go_num, by rw [HE.out]⟩
            case measure => simp [intOf]; omega
          · have d0 : decide (t < 0) = false := decide_eq_false ht0
            have t0 : 0 ≤ t := by omega
            have t1 : t < (n : Int) := by omega
            have cy := HC.out t.toNat (by omega)
            have wy := HF.out.word t.toNat
            obtain ⟨y, hy⟩ : ∃ y, xs.getD t.toNat 0 = y := ⟨_, rfl⟩
            rw [hy] at cy wy hnext
            have HY := Lib.hid hy
            clear hy ht0
            have CO := Lib.hid (order_c x y wx wy)
            obtain ⟨o, ho⟩ : ∃ o, Fl.ordV x y = o := ⟨_, rfl⟩
            rw [ho] at hnext CO
            clear ho
            by_cases hw2 : o = way
            · have d1 : (o == way) = true := beq_iff_eq.2 hw2
              have HE := Lib.hid (hnext.trans (if_pos ⟨rfl, .inr hw2⟩))
              clear hnext hw2
              go_wp2_with (go_at_call 54; refine (CO.out _).mono ?_; rintro e w' ⟨rfl, rfl⟩)
              go_round
              case rel => exact ⟨k + 1, by omega, by go_num, by rw [HE.out]⟩
              case measure => simp [intOf]; omega
            · have d1 : (o == way) = false := beq_eq_false_iff_ne.2 hw2
              have HE := Lib.hid (hnext.trans (if_neg (by rintro ⟨_, h | h⟩; · omega
                                                          · exact hw2 h)))
              clear hnext hw2
              go_wp2_with (go_at_call 54; refine (CO.out _).mono ?_; rintro e w' ⟨rfl, rfl⟩)
              go_round
              case rel => exact ⟨k + 1, by omega, by go_num, by rw [HE.out]⟩
              case measure => simp [intOf]; omega
      · have hkn : k = n := by omega
        subst hkn
        have hv : bestV xs way = if bestAt xs way k < 0 then (theNan, -1) else (xs.getD (bestAt xs way k).toNat 0, bestAt xs way k) := by unfold bestV; rw [HN.out]
        clear hlt
        obtain ⟨t, ht⟩ : ∃ t, bestAt xs way k = t := ⟨_, rfl⟩
        rw [ht] at tb hv ⊢
        clear ht
        by_cases ht0 : t < 0
        · have HV := Lib.hid (hv.trans (if_pos ht0))
          clear hv
          have d0 : decide (t < 0) = true := decide_eq_true ht0
          have e1 : t = -1 := by omega
          clear ht0
          go_wp2_with (go_at_call 30; refine (nan_c _).mono ?_; rintro e w' ⟨rfl, rfl⟩)
          go_ret2
          exact ⟨by rw [HV.out]; rfl, rfl⟩
        · have hv2 := hv.trans (if_neg ht0)
          clear hv
          have d0 : decide (t < 0) = false := decide_eq_false ht0
          have t0 : 0 ≤ t := by omega
          have t1 : t < (k : Int) := by omega
          have cy := HC.out t.toNat (by omega)
          obtain ⟨y, hy⟩ : ∃ y, xs.getD t.toNat 0 = y := ⟨_, rfl⟩
          rw [hy] at cy hv2
          have HV := Lib.hid hv2
          clear hy ht0 hv2
          go_wp2
          go_ret2
          exact ⟨by rw [HV.out]; rfl, rfl⟩

theorem most_c (A : Option Addr) (n c : Nat) (xs : List Nat) (w : World) (h : Fs w A n xs) :
    Calls Try.prog 24 #[.slice A n c] w fun e w' => e = .returned (.tuple #[.float .f64 (bestV xs 1).1, .int .i64 (bestV xs 1).2]) ∧ w = w' := by
  have C := Lib.hid (best_c A n c xs 1 w h)
  clear h
  go_enter Try.func24, Try.ntmps24
  go_wp2_with (go_at_call 44; refine C.out.mono ?_; rintro e w' ⟨rfl, rfl⟩)
  go_ret2
  exact ⟨rfl, rfl⟩
end Go.Proofs.Ytfiimmbpfdpjfaa
