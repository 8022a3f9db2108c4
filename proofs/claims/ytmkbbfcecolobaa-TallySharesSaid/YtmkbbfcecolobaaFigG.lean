/-
  The document's first, Least, Most: two loops within one another that read a slice of floats.
-/
import Derived.Test.YtmkbbfcecolobaaFigD
import Derived.LoopTactic
import Derived.Deep.QuietTactic
import Derived.BigQuiet
namespace Go.Proofs.Ytmkbbfcecolobaa
open Go.RowKit
set_option linter.unusedSimpArgs false

/-- j forbids i -/
def forb (xs : List Nat) (way : Int) (i j : Nat) : Bool :=
  !Fl.nan (xs.getD j 0) && (Fl.ordV (xs.getD j 0) (xs.getD i 0) == way || (Fl.ordV (xs.getD j 0) (xs.getD i 0) == 0 && decide (j < i)))
def Qual (xs : List Nat) (way : Int) (n i : Nat) : Prop := i < n ∧ Fl.nan (xs.getD i 0) = false ∧ ∀ j, j < n → forb xs way i j = false

theorem ord_key (a b : Nat) : (Fl.ordV a b = -1 ↔ Fl.key a < Fl.key b) ∧ (Fl.ordV a b = 1 ↔ Fl.key b < Fl.key a) ∧ (Fl.ordV a b = 0 ↔ Fl.key a = Fl.key b) := by
  rcases Nat.lt_trichotomy (Fl.key a) (Fl.key b) with h | h | h
  · rw [ordV_lt h]; omega
  · rw [ordV_eq h]; omega
  · rw [ordV_gt h]; omega

theorem forb_no {xs : List Nat} {way : Int} {i j : Nat} (hn : Fl.nan (xs.getD j 0) = false) :
    forb xs way i j = false ↔ Fl.ordV (xs.getD j 0) (xs.getD i 0) ≠ way ∧ ¬ (Fl.ordV (xs.getD j 0) (xs.getD i 0) = 0 ∧ j < i) := by
  unfold forb
  rw [hn]
  simp only [Bool.not_false, Bool.true_and, Bool.or_eq_false_iff, beq_eq_false_iff_ne, Bool.and_eq_false_iff, decide_eq_false_iff_not]
  constructor
  · rintro ⟨h1, h2 | h2⟩
    · exact ⟨h1, fun h => h2 h.1⟩
    · exact ⟨h1, fun h => h2 h.2⟩
  · rintro ⟨h1, h2⟩
    refine ⟨h1, ?_⟩
    by_cases e : Fl.ordV (xs.getD j 0) (xs.getD i 0) = 0
    · exact .inr fun h => h2 ⟨e, h⟩
    · exact .inl e

theorem bestAt_qual (xs : List Nat) (way : Int) (hw : way = 1 ∨ way = -1) (k : Nat) :
    (bestAt xs way k = -1 ∧ ∀ j, j < k → Fl.nan (xs.getD j 0) = true) ∨ (0 ≤ bestAt xs way k ∧ Qual xs way k (bestAt xs way k).toNat) := by
  induction k with
  | zero => exact .inl ⟨rfl, fun j hj => by omega⟩
  | succ k ih =>
    simp only [bestAt]
    have hb := bestAt_bounds xs way k
    generalize hx : xs.getD k 0 = x
    cases hn : Fl.nan x with
    | true =>
      rw [if_neg (by simp)]
      rcases ih with ⟨h1, h2⟩ | ⟨h1, h2, h3, h4⟩
      · refine .inl ⟨h1, fun j hj => ?_⟩
        by_cases e : j = k
        · rw [e, hx, hn]
        · exact h2 j (by omega)
      · refine .inr ⟨h1, by omega, h3, fun j hj => ?_⟩
        by_cases e : j = k
        · unfold forb; rw [e, hx, hn]; rfl
        · exact h4 j (by omega)
    | false =>
      rcases ih with ⟨h1, h2⟩ | ⟨h1, h2, h3, h4⟩
      · rw [if_pos ⟨rfl, .inl (by omega)⟩]
        refine .inr ⟨by omega, by omega, by rw [Int.toNat_natCast, hx]; exact hn, fun j hj => ?_⟩
        by_cases e : j = k
        · have : forb xs way k k = false := by
            rw [forb_no (by rw [hx]; exact hn)]
            have := (ord_key (xs.getD k 0) (xs.getD k 0))
            omega
          rw [e]; simpa using this
        · unfold forb; rw [h2 j (by omega)]; rfl
      · generalize ht : (bestAt xs way k).toNat = t at *
        generalize hy : xs.getD t 0 = y at *
        have ho := ord_key x y
        by_cases hc : Fl.ordV x y = way
        · rw [if_pos ⟨rfl, .inr hc⟩]
          refine .inr ⟨by omega, by omega, by rw [Int.toNat_natCast, hx]; exact hn, fun j hj => ?_⟩
          simp only [Int.toNat_natCast]
          cases hj2 : Fl.nan (xs.getD j 0) with
          | true => unfold forb; rw [hj2]; rfl
          | false =>
            rw [forb_no hj2, hx]
            by_cases e : j = k
            · rw [e, hx]
              have := ord_key x x
              omega
            · have h5 := h4 j (by omega)
              rw [forb_no hj2, hy] at h5
              have o1 := ord_key (xs.getD j 0) x
              have o2 := ord_key (xs.getD j 0) y
              rcases hw with rfl | rfl <;> omega
        · rw [if_neg (by rintro ⟨_, h | h⟩; · omega
                         · exact hc h)]
          refine .inr ⟨h1, by omega, by rw [ht, hy]; exact h3, fun j hj => ?_⟩
          rw [ht]
          by_cases e : j = k
          · rw [e, forb_no (by rw [hx]; exact hn), hx, hy]
            omega
          · exact h4 j (by omega)

theorem qual_one {xs : List Nat} {way : Int} (hw : way = 1 ∨ way = -1) {n i j : Nat} (hi : Qual xs way n i) (hj : Qual xs way n j) : i = j := by
  have key : ∀ i j, Qual xs way n i → Qual xs way n j → ¬ i < j := by
    intro i j hi hj hlt
    have h1 := hi.2.2 j hj.1
    have h2 := hj.2.2 i hi.1
    rw [forb_no hj.2.1] at h1
    rw [forb_no hi.2.1] at h2
    have o1 := ord_key (xs.getD i 0) (xs.getD j 0)
    have o2 := ord_key (xs.getD j 0) (xs.getD i 0)
    rcases hw with rfl | rfl <;> omega
  have := key i j hi hj
  have := key j i hj hi
  omega
theorem qual_best {xs : List Nat} {way : Int} (hw : way = 1 ∨ way = -1) {n i : Nat} (hi : Qual xs way n i) : bestAt xs way n = i := by
  rcases bestAt_qual xs way hw n with ⟨_, h2⟩ | ⟨h1, h2⟩
  · have := h2 i hi.1
    rw [hi.2.1] at this
    cases this
  · have := qual_one hw hi h2
    omega
theorem no_qual {xs : List Nat} {way : Int} (hw : way = 1 ∨ way = -1) {n : Nat} (h : ∀ i, i < n → ¬ Qual xs way n i) : bestAt xs way n = -1 := by
  rcases bestAt_qual xs way hw n with ⟨h1, _⟩ | ⟨_, h2⟩
  · exact h1
  · exact absurd h2 (h _ h2.1)

theorem Drw.step {w w' : World} (h : Drw w w') (n : Nat) : Drw w (w'.drewN n) := by
  obtain ⟨m, rfl⟩ := h
  exact ⟨m + n, World.drewN_drewN ..⟩
theorem Drw.trans {w w1 w2 : World} (h : Drw w w1) (k : Drw w1 w2) : Drw w w2 := by
  obtain ⟨m, rfl⟩ := k
  exact h.step m
theorem Drw.cell {w w' : World} (h : Drw w w') (a : Addr) : w'.cell? a = w.cell? a := by
  obtain ⟨n, rfl⟩ := h; rfl

theorem forb_more {xs : List Nat} {way : Int} {k m s : Nat} (h : s = 0 ↔ ∀ q, q < m → forb xs way k q = false) (hf : forb xs way k m = false) : s = 0 ↔ ∀ q, q < m + 1 → forb xs way k q = false := by
  rw [h]
  constructor
  · intro g q hq
    by_cases e : q = m
    · rw [e]; exact hf
    · exact g q (by omega)
  · intro g q hq
    exact g q (by omega)
theorem forb_hit {xs : List Nat} {way : Int} {k m s : Nat} (hf : forb xs way k m = true) : s + 1 = 0 ↔ ∀ q, q < m + 1 → forb xs way k q = false := by
  constructor
  · intro h; omega
  · intro g
    have := g m (by omega)
    rw [hf] at this
    cases this
theorem no_more {xs : List Nat} {way : Int} {n k : Nat} (h : ∀ j, j < k → ¬ Qual xs way n j) (hk : ¬ Qual xs way n k) : ∀ j, j < k + 1 → ¬ Qual xs way n j := by
  intro j hj
  by_cases e : j = k
  · rw [e]; exact hk
  · exact h j (by omega)

set_option maxHeartbeats 4000000 in
theorem first_c (A : Option Addr) (n c : Nat) (xs : List Nat) (way : Int) (hw : way = 1 ∨ way = -1) (w : World) (h : Fs w A n xs) :
    Calls Try.prog 42 #[.slice A n c, .int .i64 way] w fun e w' => e = .returned (.int .i64 (bestAt xs way n)) ∧ Drw w w' := by
  have hs := h.small
  have HF := Lib.hid h
  have HW := Lib.hid hw
  have hc : ∃ ad, 0 < n → A = some ad ∧ ∀ j, j < n → w.cell? (ad.add j) = some (.float .f64 (xs.getD j 0)) := by
    by_cases h0 : 0 < n
    · obtain ⟨ad, h1⟩ := h.at_ h0
      exact ⟨ad, fun _ => h1⟩
    · exact ⟨default, fun h1 => absurd h1 h0⟩
  obtain ⟨ad, hc⟩ := hc
  have HC := Lib.hid hc
  clear h hc hw
  go_enter Try.func42, Try.ntmps42
  go_wp2
  go_loopw [5] (fun i wr => ∃ k : Nat, k ≤ n ∧ i = .int .i64 k ∧ (∀ j, j < k → ¬ Qual xs way n j) ∧ Drw w wr) (fun i _ => n - (intOf i).toNat)
  case atStart => exact ⟨0, by omega, rfl, fun j hj => by omega, Drw.refl _⟩
  case round =>
    obtain ⟨k, hk, rfl, hq, ⟨d1, rfl⟩⟩ := hrel
    have HQ := Lib.hid hq
    clear hq
    by_cases hlt : k < n
    · obtain ⟨hA, hcell⟩ := HC.out (by omega)
      have cx := hcell k hlt
      have wx := HF.out.word k
      obtain ⟨x, hx⟩ : ∃ x, xs.getD k 0 = x := ⟨_, rfl⟩
      rw [hx] at cx wx
      have HX := Lib.hid hx
      have HL := Lib.hid hcell
      clear hcell hx
      subst hA
      go_wp2
      go_loopw [6, 7] (fun a j wi => ∃ (m : Nat) (s : Nat), m ≤ n ∧ s ≤ m ∧ j = .int .i64 m ∧ a = .int .i64 s ∧ (s = 0 ↔ ∀ q, q < m → forb xs way k q = false) ∧ Drw w wi) (fun _ j _ => n - (intOf j).toNat)
      case atStart => exact ⟨0, 0, by omega, by omega, rfl, rfl, by simp, d1, rfl⟩
      case round =>
        obtain ⟨m, s, hm, hsm, rfl, rfl, hz, ⟨d2, rfl⟩⟩ := hrel
        have HZ := Lib.hid hz
        clear hz
        by_cases hm2 : m < n
        · have cy := HL.out m hm2
          have wy := HF.out.word m
          obtain ⟨y, hy⟩ : ∃ y, xs.getD m 0 = y := ⟨_, rfl⟩
          have hf : forb xs way k m = (!Fl.nan y && (Fl.ordV y x == way || (Fl.ordV y x == 0 && decide (m < k)))) := by unfold forb; rw [hy, HX.out]
          rw [hy] at cy wy
          have CO := Lib.hid (refOrder_c y x wy wx)
          obtain ⟨o, ho⟩ : ∃ o, Fl.ordV y x = o := ⟨_, rfl⟩
          rw [ho] at CO hf
          clear ho hy
          cases hny : Fl.nan y with
          | true =>
            have he : (Fl.F.order y y == some .eq) = false := by rw [Fl.eql, Fl.eqB_self, hny]; rfl
            have HF2 : Hid (forb xs way k m = false) := Lib.hid (by rw [hf, hny]; rfl)
            clear hf hny
            go_wp2_with fail
            go_quiet ((go_at_call 31; refine (CO.out _).mono ?_; rintro e w' ⟨rfl, rfl⟩; exact ⟨rfl, _, rfl⟩))
            go_wp2
            go_quiet (fail)
            go_wp2
            go_roundw
            case rel => exact ⟨m + 1, s, by omega, by omega, by go_num, rfl, forb_more HZ.out HF2.out, ⟨_, rfl⟩⟩
            case measure => simp [intOf]; omega
          | false =>
            have he : (Fl.F.order y y == some .eq) = true := by rw [Fl.eql, Fl.eqB_self, hny]; rfl
            rw [hny] at hf
            clear hny
            by_cases o1 : o = way
            · have e1 : (o == way) = true := beq_iff_eq.2 o1
              have HF2 : Hid (forb xs way k m = true) := Lib.hid (by rw [hf, e1]; rfl)
              clear hf o1
              go_wp2_with fail
              go_quiet ((go_at_call 31; refine (CO.out _).mono ?_; rintro e w' ⟨rfl, rfl⟩; exact ⟨rfl, _, rfl⟩))
              go_wp2
              go_quiet (fail)
              go_wp2
              go_roundw
              case rel => exact ⟨m + 1, s + 1, by omega, by omega, by go_num, by go_num, forb_hit HF2.out, ⟨_, rfl⟩⟩
              case measure => simp [intOf]; omega
            · have e1 : (o == way) = false := beq_eq_false_iff_ne.2 o1
              by_cases o2 : o = 0
              · have e2 : (o == 0) = true := beq_iff_eq.2 o2
                by_cases o3 : m < k
                · have e3 : decide (m < k) = true := decide_eq_true o3
                  have e4 : decide ((m : Int) < (k : Int)) = true := decide_eq_true (by omega)
                  have HF2 : Hid (forb xs way k m = true) := Lib.hid (by rw [hf, e1, e2, e3]; rfl)
                  clear hf o1 o2 o3
                  go_wp2_with fail
                  go_quiet ((go_at_call 31; refine (CO.out _).mono ?_; rintro e w' ⟨rfl, rfl⟩; exact ⟨rfl, _, rfl⟩))
                  go_wp2
                  go_quiet (fail)
                  go_wp2
                  go_roundw
                  case rel => exact ⟨m + 1, s + 1, by omega, by omega, by go_num, by go_num, forb_hit HF2.out, ⟨_, rfl⟩⟩
                  case measure => simp [intOf]; omega
                · have e3 : decide (m < k) = false := decide_eq_false o3
                  have e4 : decide ((m : Int) < (k : Int)) = false := decide_eq_false (by omega)
                  have HF2 : Hid (forb xs way k m = false) := Lib.hid (by rw [hf, e1, e2, e3]; rfl)
                  clear hf o1 o2 o3
                  go_wp2_with fail
                  go_quiet ((go_at_call 31; refine (CO.out _).mono ?_; rintro e w' ⟨rfl, rfl⟩; exact ⟨rfl, _, rfl⟩))
                  go_wp2
                  go_quiet (fail)
                  go_wp2
                  go_roundw
                  case rel => exact ⟨m + 1, s, by omega, by omega, by go_num, rfl, forb_more HZ.out HF2.out, ⟨_, rfl⟩⟩
                  case measure => simp [intOf]; omega
              · have e2 : (o == 0) = false := beq_eq_false_iff_ne.2 o2
                have HF2 : Hid (forb xs way k m = false) := Lib.hid (by rw [hf, e1, e2]; rfl)
                clear hf o1 o2
                go_wp2_with fail
                go_quiet ((go_at_call 31; refine (CO.out _).mono ?_; rintro e w' ⟨rfl, rfl⟩; exact ⟨rfl, _, rfl⟩))
                go_wp2
                go_quiet (fail)
                go_wp2
                go_roundw
                case rel => exact ⟨m + 1, s, by omega, by omega, by go_num, rfl, forb_more HZ.out HF2.out, ⟨_, rfl⟩⟩
                case measure => simp [intOf]; omega
        · have hmn : m = n := by omega
          subst hmn
          clear hm2
          cases hnx : Fl.nan x with
          | true =>
            have he : (Fl.F.order x x == some .eq) = false := by rw [Fl.eql, Fl.eqB_self, hnx]; rfl
            have HNQ : Hid (¬ Qual xs way m k) := Lib.hid (fun h => by have := h.2.1; rw [HX.out, hnx] at this; cases this)
            clear hnx
            go_wp2
            go_quiet (fail)
            go_wp2
            go_roundw
            case rel => exact ⟨k + 1, by omega, by go_num, no_more HQ.out HNQ.out, ⟨_, rfl⟩⟩
            case measure => simp [intOf]; omega
          | false =>
            have he : (Fl.F.order x x == some .eq) = true := by rw [Fl.eql, Fl.eqB_self, hnx]; rfl
            by_cases hs0 : s = 0
            · have hb := qual_best HW.out (n := m) (i := k) ⟨hlt, by rw [HX.out]; exact hnx, HZ.out.1 hs0⟩
              have HBB := Lib.hid hb
              have e1 : ((s : Int) == 0) = true := beq_iff_eq.2 (by omega)
              clear hnx hs0 hb
              go_wp2
              go_quiet (fail)
              go_wp2
              go_ret
              exact ⟨by rw [HBB.out]; rfl, ⟨_, World.drewN_drewN ..⟩⟩
            · have HNQ : Hid (¬ Qual xs way m k) := Lib.hid (fun h => hs0 (HZ.out.2 h.2.2))
              have e1 : ((s : Int) == 0) = false := beq_eq_false_iff_ne.2 (by omega)
              clear hnx hs0
              go_wp2
              go_quiet (fail)
              go_wp2
              go_roundw
              case rel => exact ⟨k + 1, by omega, by go_num, no_more HQ.out HNQ.out, ⟨_, rfl⟩⟩
              case measure => simp [intOf]; omega
    · have hkn : k = n := by omega
      subst hkn
      have HBB := Lib.hid (no_qual HW.out HQ.out)
      go_wp2
      go_ret
      exact ⟨by rw [HBB.out]; rfl, ⟨_, rfl⟩⟩

theorem bestV_len {xs : List Nat} {n : Nat} (h : xs.length = n) (way : Int) : bestV xs way = if bestAt xs way n < 0 then (theNan, -1) else (xs.getD (bestAt xs way n).toNat 0, bestAt xs way n) := by
  subst h; rfl

set_option maxHeartbeats 1000000 in
theorem refMost_c (A : Option Addr) (n c : Nat) (xs : List Nat) (w : World) (h : Fs w A n xs) :
    Calls Try.prog 25 #[.slice A n c] w fun e w' => e = .returned (.tuple #[.float .f64 (bestV xs 1).1, .int .i64 (bestV xs 1).2]) ∧ Drw w w' := by
  have C := Lib.hid (first_c A n c xs 1 (.inl rfl) w h)
  have hv := bestV_len h.len 1
  have tb := bestAt_bounds xs 1 n
  have HF := Lib.hid h
  clear h
  obtain ⟨t, ht⟩ : ∃ t, bestAt xs 1 n = t := ⟨_, rfl⟩
  rw [ht] at tb hv C
  clear ht
  by_cases h0 : t < 0
  · have d0 : decide (t < 0) = true := decide_eq_true h0
    have HV := Lib.hid (hv.trans (if_pos h0))
    have e1 : t = -1 := by omega
    subst e1
    clear h0 hv
    go_enter Try.func25, Try.ntmps25
    go_wp2_with (first | (go_at_call 42; refine C.out.mono ?_; rintro e w' ⟨rfl, ⟨d, rfl⟩⟩) | (go_at_call 43; refine (refNone_c _).mono ?_; rintro e w' ⟨rfl, rfl⟩))
    go_ret2
    exact ⟨by rw [HV.out]; rfl, ⟨_, rfl⟩⟩
  · have d0 : decide (t < 0) = false := decide_eq_false h0
    have hv2 := hv.trans (if_neg h0)
    have t0 : 0 ≤ t := by omega
    have t1 : t < (n : Int) := by omega
    obtain ⟨ad, hA, hc⟩ := HF.out.at_ (by omega)
    have cy := hc t.toNat (by omega)
    obtain ⟨y, hy⟩ : ∃ y, xs.getD t.toNat 0 = y := ⟨_, rfl⟩
    rw [hy] at cy hv2
    have HV := Lib.hid hv2
    subst hA
    clear hy h0 hv hv2 hc
    go_enter Try.func25, Try.ntmps25
    go_wp2_with (first | (go_at_call 42; refine C.out.mono ?_; rintro e w' ⟨rfl, ⟨d, rfl⟩⟩) | (go_at_call 43; refine (refNone_c _).mono ?_; rintro e w' ⟨rfl, rfl⟩))
    go_ret2
    exact ⟨by rw [HV.out]; rfl, ⟨_, rfl⟩⟩
end Go.Proofs.Ytmkbbfcecolobaa
