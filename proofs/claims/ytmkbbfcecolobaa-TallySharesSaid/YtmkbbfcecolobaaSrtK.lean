/-
  The document's Rank: each place is counted.
-/
import Derived.Test.YtmkbbfcecolobaaSrtJ
import Derived.Test.YtmkbbfcecolobaaFigC
import Derived.Deep.Cut
namespace Go.Proofs.Ytmkbbfcecolobaa
open Go.RowKit
namespace Srt
def cnt (p : Nat → Bool) : Nat → Nat
  | 0 => 0
  | n + 1 => cnt p n + if p n = true then 1 else 0
theorem cnt_congr {p q : Nat → Bool} : ∀ {n : Nat}, (∀ k, k < n → p k = q k) → cnt p n = cnt q n
  | 0, _ => rfl
  | n + 1, h => by
    show cnt p n + _ = cnt q n + _
    rw [cnt_congr fun k hk => h k (by omega), h n (by omega)]
theorem cnt_none {p : Nat → Bool} : ∀ {n : Nat}, (∀ k, k < n → p k = false) → cnt p n = 0
  | 0, _ => rfl
  | n + 1, h => by
    show cnt p n + _ = 0
    rw [cnt_none fun k hk => h k (by omega), h n (by omega)]; rfl
theorem cnt_le {p q : Nat → Bool} : ∀ {n : Nat}, (∀ k, k < n → p k = true → q k = true) → cnt p n ≤ cnt q n
  | 0, _ => Nat.le_refl _
  | n + 1, h => by
    show cnt p n + _ ≤ cnt q n + _
    have := cnt_le (p := p) (q := q) (n := n) fun k hk => h k (by omega)
    have h1 := h n (by omega)
    cases hp : p n <;> cases hq : q n <;> simp_all <;> omega
theorem cnt_more {p q : Nat → Bool} {c : Nat} : ∀ {n : Nat}, c < n → p c = false → q c = true → (∀ k, k < n → p k = true → q k = true) → cnt p n < cnt q n
  | n + 1, hc, h1, h2, h => by
    show cnt p n + _ < cnt q n + _
    by_cases e : c = n
    · subst e
      have := cnt_le (p := p) (q := q) (n := c) fun k hk => h k (by omega)
      rw [h1, h2]; simp; omega
    · have := cnt_more (p := p) (q := q) (c := c) (n := n) (by omega) h1 h2 fun k hk => h k (by omega)
      have h1 := h n (by omega)
      cases hp : p n <;> cases hq : q n <;> simp_all <;> omega
theorem cnt_all : ∀ (n : Nat), cnt (fun _ => true) n = n
  | 0 => rfl
  | n + 1 => by show cnt _ n + 1 = _; rw [cnt_all n]
theorem cnt_lt {p : Nat → Bool} {c n : Nat} (hc : c < n) (h : p c = false) : cnt p n < n := by
  have := cnt_more (q := fun _ => true) hc h rfl fun _ _ _ => rfl
  rwa [cnt_all] at this
theorem cnt_one {p q : Nat → Bool} {c : Nat} : ∀ {n : Nat}, c < n → p c = false → (∀ k, k < n → q k = (p k || k == c)) → cnt q n = cnt p n + 1
  | n + 1, hc, h1, h => by
    show cnt q n + _ = cnt p n + _ + 1
    by_cases e : c = n
    · subst e
      rw [h c (by omega), h1, cnt_congr (q := p) fun k hk => by
        rw [h k (by omega)]
        have : (k == c) = false := by rw [beq_eq_false_iff_ne]; omega
        rw [this, Bool.or_false]]
      simp
    · have := cnt_one (p := p) (q := q) (c := c) (n := n) (by omega) h1 fun k hk => h k (by omega)
      rw [h n (by omega), this]
      have : (n == c) = false := by rw [beq_eq_false_iff_ne]; omega
      rw [this, Bool.or_false]; omega
/-- is x ahead of y? -/
def ltB (K : Nat → Nat) (x y : Nat) : Bool := decide (K x < K y) || (decide (K x = K y) && decide (x < y))
theorem ltB_iff {K : Nat → Nat} {x y : Nat} : ltB K x y = true ↔ Lt K x y := by unfold ltB Lt; simp
theorem ltB_no {K : Nat → Nat} {x y : Nat} : ltB K x y = false ↔ ¬ Lt K x y := by rw [← ltB_iff]; simp
theorem Lt.irrefl {K : Nat → Nat} {x : Nat} : ¬ Lt K x x := by unfold Lt; omega
/-- how many are ahead -/
def rk (K : Nat → Nat) (n i : Nat) : Nat := cnt (fun k => ltB K k i) n
theorem rk_lt {K : Nat → Nat} {n i : Nat} (h : i < n) : rk K n i < n := cnt_lt h (ltB_no.2 Lt.irrefl)
theorem rk_mono {K : Nat → Nat} {n i j : Nat} (hi : i < n) (h : Lt K i j) : rk K n i < rk K n j :=
  cnt_more hi (ltB_no.2 Lt.irrefl) (ltB_iff.2 h) fun _ _ hk => ltB_iff.2 ((ltB_iff.1 hk).trans h)
theorem rk_inj {K : Nat → Nat} {n i j : Nat} (hi : i < n) (hj : j < n) (h : rk K n i = rk K n j) : i = j := by
  by_cases c1 : Lt K i j
  · have := rk_mono hi c1; omega
  · by_cases c2 : Lt K j i
    · have := rk_mono hj c2; omega
    · unfold Lt at *; omega
/-- the first j places' elements -/
def firstOf (f : Nat → Nat) : Nat → Nat → Bool
  | 0, _ => false
  | j + 1, k => firstOf f j k || k == f j
theorem firstOf_iff {f : Nat → Nat} {j k : Nat} : firstOf f j k = true ↔ ∃ t, t < j ∧ k = f t := by
  induction j with
  | zero => simp [firstOf]
  | succ j ih =>
    show (firstOf f j k || k == f j) = true ↔ _
    rw [Bool.or_eq_true, ih, beq_iff_eq]
    constructor
    · rintro (⟨t, h1, h2⟩ | h)
      · exact ⟨t, by omega, h2⟩
      · exact ⟨j, by omega, h⟩
    · rintro ⟨t, h1, h2⟩
      by_cases e : t = j
      · subst e; exact .inr h2
      · exact .inl ⟨t, by omega, h2⟩
theorem cnt_first {f : Nat → Nat} {n : Nat} (hi : Inj f) (hl : ∀ k, k < n → f k < n) : ∀ j, j ≤ n → cnt (firstOf f j) n = j
  | 0, _ => cnt_none fun _ _ => rfl
  | j + 1, h => by
    rw [cnt_one (p := firstOf f j) (q := firstOf f (j + 1)) (c := f j) (hl j (by omega)) ?_ fun k _ => rfl, cnt_first hi hl j (by omega)]
    cases hc : firstOf f j (f j) with
    | false => rfl
    | true =>
      obtain ⟨t, h1, h2⟩ := firstOf_iff.1 hc
      have := hi _ _ h2
      omega
/-- what is sorted is where it is counted to be -/
theorem rk_sorted {K f : Nat → Nat} {n : Nat} (hm : Mv 0 n (fun k => k) f) (hs : Sorted K f 0 n) {j : Nat} (hj : j < n) : rk K n (f j) = j := by
  have hin : Inj f := hm.inj fun _ _ e => e
  have hl : ∀ k, k < n → f k < n := fun k hk => by
    obtain ⟨t, _, h2, h3⟩ := hm.at_ k (Nat.zero_le _) hk
    rw [h3]; exact h2
  unfold rk
  rw [cnt_congr (q := firstOf f j), cnt_first hin hl j (by omega)]
  intro k hk
  obtain ⟨t, _, h2, h3⟩ := hm.symm.at_ k (Nat.zero_le _) hk
  rw [h3]
  have e : ltB K (f t) (f j) = decide (t < j) := by
    by_cases c : t < j
    · rw [decide_eq_true c]; exact ltB_iff.2 (hs t j (Nat.zero_le _) c hj)
    · rw [decide_eq_false c]
      refine ltB_no.2 fun h => ?_
      by_cases e : t = j
      · subst e; exact Lt.irrefl h
      · have := (hs j t (Nat.zero_le _) (by omega) h2)
        exact Lt.irrefl (h.trans this)
  rw [e]
  by_cases c : t < j
  · rw [decide_eq_true c]; exact (firstOf_iff.2 ⟨t, c, rfl⟩).symm
  · rw [decide_eq_false c]
    cases hf : firstOf f j (f t) with
    | false => rfl
    | true =>
      obtain ⟨u, h1, h2⟩ := firstOf_iff.1 hf
      have := hin _ _ h2
      omega
theorem rk_same {K f f' : Nat → Nat} {n : Nat} (hm : Mv 0 n (fun k => k) f) (hs : Sorted K f 0 n) (h : ∀ i, i < n → f' (rk K n i) = i) : ∀ j, j < n → f j = f' j := fun j hj => by
  have hl : f j < n := by
    obtain ⟨t, _, h2, h3⟩ := hm.at_ j (Nat.zero_le _) hj
    rw [h3]; exact h2
  have := h (f j) hl
  rw [rk_sorted hm hs hj] at this
  exact this.symm
end Srt
open Srt
set_option linter.unusedSimpArgs false
theorem below_moreN {B : Nat} {w w' : World} (h : Below B w w') (d : Nat) : Below B w (w'.drewN d) := h.trans ⟨rfl, rfl, rfl, Nat.le_refl _, fun _ _ => rfl⟩
theorem ordV_ltB (xs : List Nat) (m k : Nat) : ltB (keyAt xs) m k = (decide (Fl.ordV (xs.getD m 0) (xs.getD k 0) < 0) || (Fl.ordV (xs.getD m 0) (xs.getD k 0) == 0 && decide (m < k))) := by
  show (decide (Fl.key (xs.getD m 0) < Fl.key (xs.getD k 0)) || (decide (Fl.key (xs.getD m 0) = Fl.key (xs.getD k 0)) && decide (m < k))) = _
  generalize xs.getD m 0 = a
  generalize xs.getD k 0 = b
  rcases Nat.lt_trichotomy (Fl.key a) (Fl.key b) with h | h | h
  · rw [ordV_lt h, decide_eq_true h]; rfl
  · rw [ordV_eq h, decide_eq_true h, decide_eq_false (show ¬ Fl.key a < Fl.key b by omega)]; rfl
  · rw [ordV_gt h, decide_eq_false (show ¬ Fl.key a < Fl.key b by omega), decide_eq_false (show ¬ Fl.key a = Fl.key b by omega)]; rfl
set_option maxHeartbeats 1000000 in
theorem refRank_c (A : Option Addr) (n c : Nat) (xs : List Nat) (w : World) (h : Fs w A n xs) (hn : n ≤ 17592186044400) :
    Calls Try.prog 8 #[.slice A n c] w fun e w' => ∃ f, e = .returned (.slice (some ⟨w.heap.size, 0, none⟩) n n) ∧ Arr w' w.heap.size n f ∧ (∀ i, i < n → f (rk (keyAt xs) n i) = i) ∧ Below w.heap.size w w' := by
  have hmk := fun w => run_make_int (n : Int) (by omega) (by omega) w
  rw [show ((n : Int)).toNat = n by omega] at hmk
  have HF := Lib.hid h
  have HFK := Lib.hid (fun hk : 0 < n => h.at_ hk)
  clear h
  go_enter Try.func8, Try.ntmps8
  go_wp2_with fail
  have A0 : Arr (w.alloc (Obj.cells (inl n fun _ => 0).toArray 3)) w.heap.size n fun _ => 0 := Arr.of_row (Row.new w 3 (inl n fun _ => 0)) (by omega)
  have L0 : Below w.heap.size w (w.alloc (Obj.cells (inl n fun _ => 0).toArray 3)) := (Below.refl w.heap.size w).alloc (Nat.le_refl _) _
  have HA0 := Lib.hid A0
  have HL0 := Lib.hid L0
  clear A0 L0
  go_loopw [4, 5, 6, 7] (fun x _ _ _ wr => ∃ (k : Nat) (f : Nat → Nat), k ≤ n ∧ x = .int .i64 k ∧ Arr wr w.heap.size n f ∧ (∀ i, i < k → f (rk (keyAt xs) n i) = i) ∧ Below w.heap.size w wr) (fun x _ _ _ _ => n - (intOf x).toNat)
  case atStart => exact ⟨0, _, by omega, rfl, HA0.out, fun i hi => by omega, HL0.out⟩
  case round =>
    obtain ⟨k, f, hk, rfl, hA, hR, hL⟩ := hrel
    clear HA0 HL0
    have HA := Lib.hid hA
    have HR := Lib.hid hR
    have HL := Lib.hid hL
    clear hA hR hL
    by_cases hkn : k < n
    · have d0 : decide ((k : Int) < (n : Int)) = true := decide_eq_true (by omega)
      obtain ⟨ad, hA, hc⟩ := HFK.out (by omega)
      subst hA
      have HCE := Lib.hid hc
      have wx := HF.out.word k
      clear hc
      obtain ⟨x, hx⟩ : ∃ x, xs.getD k 0 = x := ⟨_, rfl⟩
      rw [hx] at wx
      have HX := Lib.hid hx
      clear hx
      go_wp2_with fail
      go_loopw [5, 6, 7] (fun y z _ wq => ∃ m : Nat, m ≤ n ∧ y = .int .i64 (cnt (fun j => ltB (keyAt xs) j k) m : Nat) ∧ z = .int .i64 m ∧ ∃ d, wq = wr.drewN d) (fun _ z _ _ => n - (intOf z).toNat)
      case atStart => exact ⟨0, by omega, rfl, rfl, 0, rfl⟩
      case round =>
        obtain ⟨m, hm, rfl, rfl, d, rfl⟩ := hrel
        obtain ⟨t, ht⟩ : ∃ t, cnt (fun j => ltB (keyAt xs) j k) m = t := ⟨_, rfl⟩
        have HT := Lib.hid ht
        by_cases hmn : m < n
        · have tm : t ≤ m := by
            have := cnt_le (p := fun j => ltB (keyAt xs) j k) (q := fun _ => true) (n := m) fun _ _ _ => rfl
            rw [cnt_all] at this
            rw [← ht]; exact this
          rw [ht]
          have d1 : decide ((m : Int) < (n : Int)) = true := decide_eq_true (by omega)
          have cx : wr.cell? (ad.add k) = some (.float .f64 x) := by
            rw [HL.out.cell (p := ad.add k) (cell_lt (HCE.out k hkn)), ← HX.out]; exact HCE.out k hkn
          have cy : wr.cell? (ad.add m) = some (.float .f64 (xs.getD m 0)) := by
            rw [HL.out.cell (p := ad.add m) (cell_lt (HCE.out m hmn))]; exact HCE.out m hmn
          have wy := HF.out.word m
          have hb := ordV_ltB xs m k
          rw [HX.out] at hb
          generalize xs.getD m 0 = y at *
          have CO := Lib.hid (refOrder_c y x wy wx)
          have kn := Lib.hid (show cnt (fun j => ltB (keyAt xs) j k) (m + 1) = t + if ltB (keyAt xs) m k = true then 1 else 0 by rw [← HT.out]; rfl)
          generalize Fl.ordV y x = o at *
          clear ht
          cases hlt : ltB (keyAt xs) m k with
          | true =>
            rw [hlt] at hb kn
            have KN := kn
            by_cases o1 : o < 0
            · have e1 : decide (o < 0) = true := decide_eq_true o1
              clear hb hlt
              go_wp2_with fail
              go_quiet ((go_at_call 31; refine (CO.out _).mono ?_; rintro e w' ⟨rfl, rfl⟩; exact ⟨rfl, _, rfl⟩))
              go_wp2_with fail
              go_roundw
              case rel => exact ⟨m + 1, by omega, by rw [KN.out]; go_num, by go_num, _, rfl⟩
              case measure => simp [intOf] <;> omega
            · have e1 : decide (o < 0) = false := decide_eq_false o1
              rw [e1, Bool.false_or] at hb
              have o2 : o = 0 := by simp at hb; exact hb.1
              have m2 : m < k := by simp at hb; exact hb.2
              subst o2
              have e3 : decide ((m : Int) < (k : Int)) = true := decide_eq_true (by omega)
              clear hb hlt
              go_wp2_with fail
              go_quiet ((go_at_call 31; refine (CO.out _).mono ?_; rintro e w' ⟨rfl, rfl⟩; exact ⟨rfl, _, rfl⟩))
              go_wp2_with fail
              go_roundw
              case rel => exact ⟨m + 1, by omega, by rw [KN.out]; go_num, by go_num, _, rfl⟩
              case measure => simp [intOf] <;> omega
          | false =>
            rw [hlt] at hb kn
            have KN := kn
            have o1 : ¬ o < 0 := by simp at hb; omega
            have e1 : decide (o < 0) = false := decide_eq_false o1
            by_cases o2 : o = 0
            · subst o2
              have m2 : ¬ m < k := by simp at hb; omega
              have e3 : decide ((m : Int) < (k : Int)) = false := decide_eq_false (by omega)
              clear hb hlt
              go_wp2_with fail
              go_quiet ((go_at_call 31; refine (CO.out _).mono ?_; rintro e w' ⟨rfl, rfl⟩; exact ⟨rfl, _, rfl⟩))
              go_wp2_with fail
              go_roundw
              case rel => exact ⟨m + 1, by omega, by rw [KN.out]; go_num, by go_num, _, rfl⟩
              case measure => simp [intOf] <;> omega
            · have e2 : (o == 0) = false := by rw [beq_eq_false_iff_ne]; exact o2
              clear hb hlt
              go_wp2_with fail
              go_quiet ((go_at_call 31; refine (CO.out _).mono ?_; rintro e w' ⟨rfl, rfl⟩; exact ⟨rfl, _, rfl⟩))
              go_wp2_with fail
              go_roundw
              case rel => exact ⟨m + 1, by omega, by rw [KN.out]; go_num, by go_num, _, rfl⟩
              case measure => simp [intOf] <;> omega
        · have d1 : decide ((m : Int) < (n : Int)) = false := decide_eq_false (by omega)
          have hmn' : m = n := by omega
          subst hmn'
          rw [ht]
          have htr : rk (keyAt xs) m k = t := ht
          have htl : t < m := by rw [← htr]; exact rk_lt hkn
          have HTR := Lib.hid htr
          clear htr ht
          have cu := HA.out.cell t htl
          have fu := HA.out.fro t htl
          have HS := Lib.hid ((HA.out.drewN d).set htl k)
          obtain ⟨u, hu⟩ : ∃ u : Nat, f t = u := ⟨_, rfl⟩
          rw [hu] at cu
          have HU := Lib.hid hu
          clear hu
          go_wp2_with fail
          go_roundw
          case rel =>
            refine ⟨k + 1, _, by omega, by go_num, HS.out, fun i hi => ?_, (below_moreN HL.out d).setCell (p := ⟨w.heap.size, t, none⟩) (Nat.le_refl _) _⟩
            by_cases e : i = k
            · subst e
              show (if rk (keyAt xs) m i = t then i else f _) = i
              rw [if_pos HTR.out]
            · show (if rk (keyAt xs) m i = t then k else f _) = i
              rw [if_neg (fun h => e (rk_inj (by omega) hkn (h.trans HTR.out.symm)))]
              exact HR.out i (by omega)
          case measure => simp [intOf] <;> omega
    · have d0 : decide ((k : Int) < (n : Int)) = false := decide_eq_false (by omega)
      have hkn' : k = n := by omega
      subst hkn'
      go_wp2_with fail
      go_ret
      exact ⟨f, rfl, HA.out, HR.out, HL.out⟩
end Go.Proofs.Ytmkbbfcecolobaa
