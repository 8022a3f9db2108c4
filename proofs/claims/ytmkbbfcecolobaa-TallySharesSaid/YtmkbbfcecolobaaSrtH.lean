/-
  symMerge of a list of places.
-/
import Derived.Test.YtmkbbfcecolobaaSrtG
import Derived.Deep.Cut
namespace Go.Proofs.Ytmkbbfcecolobaa
open Go.RowKit Srt
set_option linter.unusedSimpArgs false

/-- what is asked of symMerge for runs not longer than d -/
def SymUpTo (d g N c bx : Nat) (K : Nat → Nat) (o : Nat → Nat → Int) : Prop :=
  ∀ (a m b : Nat) (f : Nat → Nat) (w : World), b - a < d → Arr w g N f → Cmp g w bx N K o → a < m → m < b → b ≤ N → (∀ k, k < N → f k < N) → Sorted K f a m → Sorted K f m b → Low f a m b →
    Calls Try.prog 57 #[.slice (some ⟨g, 0, none⟩) N c, .int .i64 a, .int .i64 m, .int .i64 b, cmpV bx] w fun e w' => e = .returned (.tuple #[]) ∧ ∃ f', Arr w' g N f' ∧ Mv a b f f' ∧ Sorted K f' a b ∧ Chg g w w'
theorem mv_lt {a b N : Nat} {f f' : Nat → Nat} (h : Mv a b f f') (hb : b ≤ N) (hl : ∀ k, k < N → f k < N) : ∀ k, k < N → f' k < N := fun k hk => by
  obtain ⟨j, _, h2, h3⟩ := (h.mono (Nat.zero_le a) hb).at_ k (Nat.zero_le _) hk
  rw [h3]; exact hl j h2
set_option maxRecDepth 100000 in
set_option maxHeartbeats 4000000 in
theorem symC_c (g N c a m b bx : Nat) (f : Nat → Nat) (K : Nat → Nat) (o : Nat → Nat → Int) (w : World) (h : Arr w g N f) (hc : Cmp g w bx N K o) (ham : a + 1 < m) (hmb : m + 1 < b) (hbN : b ≤ N) (hlt : ∀ k, k < N → f k < N) (hS1 : Sorted K f a m) (hS2 : Sorted K f m b) (hlow : Low f a m b)
    (ih : SymUpTo (b - a) g N c bx K o) :
    Calls Try.prog 57 #[.slice (some ⟨g, 0, none⟩) N c, .int .i64 a, .int .i64 m, .int .i64 b, cmpV bx] w fun e w' => e = .returned (.tuple #[]) ∧ ∃ f', Arr w' g N f' ∧ Mv a b f f' ∧ Sorted K f' a b ∧ Chg g w w' := by
  have hN := h.small
  have H0 := Lib.hid h
  have HC := Lib.hid hc
  have HL := Lib.hid hlt
  have HS1 := Lib.hid hS1
  have HS2 := Lib.hid hS2
  have HW := Lib.hid hlow
  have IH := Lib.hid ih
  obtain ⟨mid, hmid⟩ : ∃ mid, (a + b) / 2 = mid := ⟨_, rfl⟩
  have hmi : ((a : Int) + (b : Int)) / 2 = (mid : Int) := by omega
  have hm1 : 2 * mid ≤ a + b := by omega
  have hm2 : a + b ≤ 2 * mid + 1 := by omega
  clear h hc hlt hS1 hS2 hlow ih hmid
  have s0 : ((m : Int) - (a : Int) == 1) = false := by rw [beq_eq_false_iff_ne]; omega
  have s1 : ((b : Int) - (m : Int) == 1) = false := by rw [beq_eq_false_iff_ne]; omega
  go_enter Try.func57, Try.ntmps57
  go_upto_if 140 with fail
  go_cut [20, 21] from 25 (fun x y wc => ∃ a0 r0 : Nat, x = .int .i64 a0 ∧ y = .int .i64 r0 ∧ a ≤ a0 ∧ a0 ≤ r0 ∧ r0 ≤ m ∧ m + r0 ≤ mid + m ∧ mid + m ≤ b + a0 ∧ (a0 = a ∨ a0 + b = mid + m) ∧ (r0 = m ∨ r0 + m = mid + m) ∧ wc = w)
  case first => as_aux_lemma =>
    by_cases hmm : mid < m
    · have d0 : decide ((mid : Int) < (m : Int)) = true := decide_eq_true (by omega)
      go_wp2_with fail
      go_meet
      case rel => exact ⟨mid + m - b, mid, by go_num, rfl, by omega, by omega, by omega, by omega, by omega, by omega, by omega, rfl⟩
    · have d0 : decide ((mid : Int) < (m : Int)) = false := decide_eq_false (by omega)
      go_wp2_with fail
      go_meet
      case rel => exact ⟨a, m, rfl, rfl, by omega, by omega, by omega, by omega, by omega, by omega, by omega, rfl⟩
  case rest => as_aux_lemma =>
    obtain ⟨a0, r0, rfl, rfl, i1, i2, i3, i4, i5, i6, i7, rfl⟩ := hcut
    go_wp2_with fail
    go_loopw [20, 21, 23] (fun x y _ wr => ∃ s r : Nat, a0 ≤ s ∧ s ≤ r ∧ r ≤ r0 ∧ x = .int .i64 s ∧ y = .int .i64 r ∧ Arr wr g N f ∧ (∀ k, a0 ≤ k → k < s → K (f k) ≤ K (f (mid + m - 1 - k))) ∧ (∀ k, r ≤ k → k < r0 → K (f (mid + m - 1 - k)) < K (f k)) ∧ Chg g wc wr) (fun x y _ _ => (intOf y).toNat - (intOf x).toNat)
    case atStart => exact ⟨a0, r0, by omega, by omega, by omega, rfl, rfl, H0.out, fun k _ _ => by omega, fun k _ _ => by omega, Chg.refl _ _⟩
    case round => as_aux_lemma =>
      obtain ⟨s, r, j1, j2, j3, rfl, rfl, hA, hK1, hK2, hC⟩ := hrel
      have HA := Lib.hid hA
      have HK1 := Lib.hid hK1
      have HK2 := Lib.hid hK2
      have HG := Lib.hid hC
      clear hA hK1 hK2 hC
      by_cases hlt : s < r
      · have d0 : decide ((s : Int) < (r : Int)) = true := decide_eq_true (by omega)
        obtain ⟨q, hq⟩ : ∃ q, (s + r) / 2 = q := ⟨_, rfl⟩
        have hqi : ((s : Int) + (r : Int)) / 2 = (q : Int) := by omega
        have hq1 : s ≤ q := by omega
        have hq2 : q < r := by omega
        obtain ⟨t, ht⟩ : ∃ t, mid + m - 1 - q = t := ⟨_, rfl⟩
        have hti : (mid : Int) + (m : Int) - 1 - (q : Int) = (t : Int) := by omega
        have ht1 : m ≤ t := by omega
        have ht2 : t < b := by omega
        have HT := Lib.hid ht
        clear ht hq
        have cx := HA.out.cell q (by omega)
        have cy := HA.out.cell t (by omega)
        have mx := HL.out q (by omega)
        have my := HL.out t (by omega)
        have CO := Lib.hid (fun w' h => HC.out.call w' h (f t) (f q) my mx)
        have LT := HC.out.lt (f t) (f q) my mx
        obtain ⟨u, hu⟩ : ∃ u, f q = u := ⟨_, rfl⟩
        obtain ⟨v, hv⟩ : ∃ v, f t = v := ⟨_, rfl⟩
        rw [hu] at cx CO LT mx
        rw [hv] at cy CO LT my
        have HU := Lib.hid hu
        have HV := Lib.hid hv
        clear hu hv
        by_cases ho : o v u < 0
        · have d1 : decide (o v u < 0) = true := decide_eq_true ho
          have HKlt := Lib.hid (LT.1 ho)
          clear LT
          go_wp2_with fail
          go_quiet ((go_at_call 33; refine (CO.out _ (HG.out.trans (Chg.drewN g _ _))).mono ?_; rintro e w' ⟨rfl, n, rfl⟩; exact ⟨rfl, _, drewN_drewN _ _ _⟩))
          go_wp2_with fail
          go_roundw
          case rel =>
            refine ⟨s, q, by omega, by omega, by omega, rfl, by go_num, HA.out.drewN _, HK1.out, fun k h1 h2 => ?_, HG.out.trans (Chg.drewN g _ _)⟩
            exact test_up HS1.out HS2.out (c := q) (by omega) (by omega) (by omega) (by omega) (by have := HT.out; omega) (by rw [HT.out, HU.out, HV.out]; exact HKlt.out)
          case measure => simp [intOf] <;> omega
        · have d1 : decide (o v u < 0) = false := decide_eq_false ho
          have HKle : Hid (K u ≤ K v) := Lib.hid (by have := LT.2; omega)
          clear LT
          go_wp2_with fail
          go_quiet ((go_at_call 33; refine (CO.out _ (HG.out.trans (Chg.drewN g _ _))).mono ?_; rintro e w' ⟨rfl, n, rfl⟩; exact ⟨rfl, _, drewN_drewN _ _ _⟩))
          go_wp2_with fail
          go_roundw
          case rel =>
            refine ⟨q + 1, r, by omega, by omega, by omega, by go_num, rfl, HA.out.drewN _, fun k h1 h2 => ?_, HK2.out, HG.out.trans (Chg.drewN g _ _)⟩
            exact test_down HS1.out HS2.out (c := q) (by omega) (by omega) (by omega) (by have := HT.out; omega) (by omega) (by rw [HT.out, HU.out, HV.out]; exact HKle.out)
          case measure => simp [intOf] <;> omega
      · have d0 : decide ((s : Int) < (r : Int)) = false := decide_eq_false (by omega)
        have hsr : r = s := by omega
        subst hsr
        have hp : Parted K f a m b r (mid + m - r) := parted_of_search HS1.out HS2.out HW.out i1 j1 j3 i3 i4 i5 i6 i7 HK1.out HK2.out
        obtain ⟨e, he⟩ : ∃ e, mid + m - r = e := ⟨_, rfl⟩
        have hei : (mid : Int) + (m : Int) - (r : Int) = (e : Int) := by omega
        rw [he] at hp
        have hme : m ≤ e := hp.me
        have hrm : r ≤ m := hp.sm
        have har : a ≤ r := hp.as_
        have heb : e ≤ b := hp.eb
        have hmid2 : mid = r + (e - m) := by omega
        have hT := hp.turned
        rw [← hmid2] at hT
        have HP := Lib.hid hp
        have HT := Lib.hid hT
        have HM2 := Lib.hid hmid2
        have hrmid : r ≤ mid := by omega
        have hmide : mid ≤ e := by omega
        clear hp hT hmid2 he HK1 HK2
        obtain ⟨wo, hwo⟩ : ∃ wo : World, wo = wr := ⟨_, rfl⟩
        subst hwo
        go_upto_region 39 with fail
        go_cut [185] from 25 (fun x wx => x = .bool (decide (r < m ∧ m < e)) ∧ wx = wo)
        case first => as_aux_lemma =>
          by_cases h1 : r < m
          · have d1 : decide ((r : Int) < (m : Int)) = true := decide_eq_true (by omega)
            by_cases h2 : m < e
            · have d2 : decide ((m : Int) < (e : Int)) = true := decide_eq_true (by omega)
              go_wp2_with fail
              go_meet
              case rel => exact ⟨by simp [h1, h2], rfl⟩
            · have d2 : decide ((m : Int) < (e : Int)) = false := decide_eq_false (by omega)
              go_wp2_with fail
              go_meet
              case rel => exact ⟨by simp [h2], rfl⟩
          · have d1 : decide ((r : Int) < (m : Int)) = false := decide_eq_false (by omega)
            go_wp2_with fail
            go_meet
            case rel => exact ⟨by simp [h1], rfl⟩
        case rest => as_aux_lemma =>
          obtain ⟨rfl, hwx⟩ := hcut
          subst hwx
          go_upto_if 185 with fail
          go_cut [] from 25 (fun wx => Arr wx g N (rot f r m e) ∧ Chg g wc wx)
          case first => as_aux_lemma =>
            by_cases h1 : r < m ∧ m < e
            · have d1 : decide (r < m ∧ m < e) = true := decide_eq_true h1
              obtain ⟨h2, h3⟩ := h1
              have C := Lib.hid (fun w' hA => rot_c (cmpV bx) g N c r m e f w' hA h2 h3 (by omega))
              go_wp2_with fail
              refine (C.out _ HA.out).mono ?_
              rintro e w1 ⟨rfl, hA1, hC1⟩
              have HA1 := Lib.hid hA1
              have HC1 := Lib.hid hC1
              clear hA1 hC1
              go_wp2
              go_meet
              case rel => exact ⟨HA1.out, HC1.out⟩
            · have d1 : decide (r < m ∧ m < e) = false := decide_eq_false h1
              go_wp2_with fail
              go_meet
              case rel =>
                refine ⟨HA.out.congr ?_, Chg.refl _ _⟩
                by_cases h2 : r = m
                · subst h2; exact (rot_nothing' f r e).symm
                · have h3 : m = e := by omega
                  subst h3; exact (rot_nothing f r m).symm
          case rest => as_aux_lemma =>
            obtain ⟨hA1, hC1⟩ := hcut
            have HA1 := Lib.hid hA1
            have HG1 := Lib.hid (HG.out.trans hC1)
            clear hA1 hC1 HA HG
            have HL1 := Lib.hid (mv_lt (rot_mv f hrm hme) (by omega) HL.out)
            obtain ⟨f1, hf1⟩ : ∃ f1, rot f r m e = f1 := ⟨_, rfl⟩
            have HF := Lib.hid hf1
            rw [hf1] at HA1 HL1 HT
            clear hf1
            go_upto_region 41 with fail
            go_cut [199] from 25 (fun x wx => x = .bool (decide (a < r ∧ r < mid)) ∧ wx = wc)
            case first => as_aux_lemma =>
              by_cases h1 : a < r
              · have d1 : decide ((a : Int) < (r : Int)) = true := decide_eq_true (by omega)
                by_cases h2 : r < mid
                · have d2 : decide ((r : Int) < (mid : Int)) = true := decide_eq_true (by omega)
                  go_wp2_with fail
                  go_meet
                  case rel => exact ⟨by simp [h1, h2], rfl⟩
                · have d2 : decide ((r : Int) < (mid : Int)) = false := decide_eq_false (by omega)
                  go_wp2_with fail
                  go_meet
                  case rel => exact ⟨by simp [h2], rfl⟩
              · have d1 : decide ((a : Int) < (r : Int)) = false := decide_eq_false (by omega)
                go_wp2_with fail
                go_meet
                case rel => exact ⟨by simp [h1], rfl⟩
            case rest => as_aux_lemma =>
              obtain ⟨rfl, hwx⟩ := hcut
              subst hwx
              go_upto_if 199 with fail
              go_cut [] from 25 (fun wx => ∃ f2, Arr wx g N f2 ∧ Mv a mid f1 f2 ∧ Sorted K f2 a mid ∧ Chg g wc wx)
              case first => as_aux_lemma =>
                by_cases h1 : a < r ∧ r < mid
                · have d1 : decide (a < r ∧ r < mid) = true := decide_eq_true h1
                  obtain ⟨h2, h3⟩ := h1
                  have C := Lib.hid (IH.out a r mid f1 wc (by omega) HA1.out (HC.out.next HG1.out) h2 h3 (by omega) HL1.out HT.out.1 HT.out.2.1 HT.out.2.2.1)
                  go_wp2_with fail
                  refine C.out.mono ?_
                  rintro e w1 ⟨rfl, f2, hA2, hM2, hS2, hC2⟩
                  have HA2 := Lib.hid hA2
                  have HM3 := Lib.hid hM2
                  have HS3 := Lib.hid hS2
                  have HC2 := Lib.hid hC2
                  clear hA2 hM2 hS2 hC2
                  go_wp2
                  go_meet
                  case rel => exact ⟨f2, HA2.out, HM3.out, HS3.out, HC2.out⟩
                · have d1 : decide (a < r ∧ r < mid) = false := decide_eq_false h1
                  go_wp2_with fail
                  go_meet
                  case rel =>
                    refine ⟨f1, HA1.out, Mv.refl _ _ _, ?_, Chg.refl _ _⟩
                    by_cases h2 : a = r
                    · have := HT.out.2.1
                      rw [← h2] at this
                      exact this
                    · have h3 : r = mid := by omega
                      have := HT.out.1
                      rw [h3] at this
                      exact this
              case rest => as_aux_lemma =>
                obtain ⟨f2, hA2, hM2, hS2, hC2⟩ := hcut
                have HA2 := Lib.hid hA2
                have HM3 := Lib.hid hM2
                have HS3 := Lib.hid hS2
                have HG2 := Lib.hid (HG1.out.trans hC2)
                have HL2 := Lib.hid (mv_lt hM2 (show mid ≤ N by omega) HL1.out)
                clear hA2 hM2 hS2 hC2 HA1 HG1
                go_upto_region 43 with fail
                go_cut [213] from 25 (fun x wx => x = .bool (decide (mid < e ∧ e < b)) ∧ wx = wc)
                case first => as_aux_lemma =>
                  by_cases h1 : mid < e
                  · have d1 : decide ((mid : Int) < (e : Int)) = true := decide_eq_true (by omega)
                    by_cases h2 : e < b
                    · have d2 : decide ((e : Int) < (b : Int)) = true := decide_eq_true (by omega)
                      go_wp2_with fail
                      go_meet
                      case rel => exact ⟨by simp [h1, h2], rfl⟩
                    · have d2 : decide ((e : Int) < (b : Int)) = false := decide_eq_false (by omega)
                      go_wp2_with fail
                      go_meet
                      case rel => exact ⟨by simp [h2], rfl⟩
                  · have d1 : decide ((mid : Int) < (e : Int)) = false := decide_eq_false (by omega)
                    go_wp2_with fail
                    go_meet
                    case rel => exact ⟨by simp [h1], rfl⟩
                case rest => as_aux_lemma =>
                  obtain ⟨rfl, hwx⟩ := hcut
                  subst hwx
                  have T1 : Sorted K f2 mid e := HT.out.2.2.2.1.congr fun k h1 h2 => HM3.out.out k (by omega)
                  have T2 : Sorted K f2 e b := HT.out.2.2.2.2.1.congr fun k h1 h2 => HM3.out.out k (by omega)
                  have T3 : Low f2 mid e b := HT.out.2.2.2.2.2.1.congr hmide heb fun k h1 h2 => HM3.out.out k (by omega)
                  have TX := HT.out.2.2.2.2.2.2
                  have T1 := Lib.hid T1
                  have T2 := Lib.hid T2
                  have T3 := Lib.hid T3
                  have TX := Lib.hid TX
                  have HR : Hid (Mv a b f f1) := Lib.hid (by rw [← HF.out]; exact (rot_mv f hrm hme).mono har heb)
                  by_cases h1 : mid < e ∧ e < b
                  · have d1 : decide (mid < e ∧ e < b) = true := decide_eq_true h1
                    obtain ⟨h2, h3⟩ := h1
                    have C := Lib.hid (IH.out mid e b f2 wc (by omega) HA2.out (HC.out.next HG2.out) h2 h3 (by omega) HL2.out T1.out T2.out T3.out)
                    go_wp2_with fail
                    refine C.out.mono ?_
                    rintro e' w1 ⟨rfl, f3, hA3, hM3, hS3, hC3⟩
                    have HA4 := Lib.hid hA3
                    have HM4 := Lib.hid hM3
                    have HS4 := Lib.hid hS3
                    have HC4 := Lib.hid hC3
                    clear hA3 hM3 hS3 hC3
                    go_wp2
                    go_end0
                    exact ⟨rfl, f3, HA4.out, (HR.out.trans (HM3.out.mono (Nat.le_refl _) (by omega))).trans (HM4.out.mono (by omega) (Nat.le_refl _)), join_halves (by omega) (by omega) TX.out HM3.out HS3.out HM4.out HS4.out, HG2.out.trans HC4.out⟩
                  · have d1 : decide (mid < e ∧ e < b) = false := decide_eq_false h1
                    go_wp2_with fail
                    go_end0
                    have hS4 : Sorted K f2 mid b := by
                      by_cases h2 : mid = e
                      · have := T2.out
                        rw [← h2] at this
                        exact this
                      · have h3 : e = b := by omega
                        have := T1.out
                        rw [h3] at this
                        exact this
                    exact ⟨rfl, f2, HA2.out, HR.out.trans (HM3.out.mono (Nat.le_refl _) (by omega)), join_halves (by omega) (by omega) TX.out HM3.out HS3.out (Mv.refl _ _ _) hS4, HG2.out⟩
/-- **symMerge of a list of places** -/
theorem sym_c (g N c bx : Nat) (K : Nat → Nat) (o : Nat → Nat → Int) (d : Nat) : SymUpTo d g N c bx K o := by
  induction d with
  | zero => intro a m b f w h; omega
  | succ d ih =>
    intro a m b f w hd h hc ham hmb hbN hlt hS1 hS2 hlow
    by_cases h1 : m = a + 1
    · exact symA_c g N c a m b bx f K o w h hc h1 hmb hbN hlt hS2 hlow
    · by_cases h2 : b = m + 1
      · exact symB_c g N c a m b bx f K o w h hc (by omega) h2 hbN hlt hS1 hlow
      · exact symC_c g N c a m b bx f K o w h hc (by omega) (by omega) hbN hlt hS1 hS2 hlow fun a' m' b' f' w' hd' => ih a' m' b' f' w' (by omega)
end Go.Proofs.Ytmkbbfcecolobaa
