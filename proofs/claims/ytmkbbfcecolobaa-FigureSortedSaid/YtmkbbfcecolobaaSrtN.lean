/-
  The walk of FigureSorted.
-/
import Derived.Test.YtmkbbfcecolobaaSrtM
namespace Go.Proofs.Ytmkbbfcecolobaa
open Go.RowKit Srt
set_option linter.unusedSimpArgs false

/-- which places were met -/
abbrev seenOf (f : Nat → Nat) (k : Nat) : Nat → Nat := fun v => if firstOf f k v = true then 1 else 0
theorem seen_next (f : Nat → Nat) (k : Nat) : (fun j => if j = f k then 1 else seenOf f k j) = seenOf f (k + 1) := by
  funext j
  show (if j = f k then 1 else if firstOf f k j = true then 1 else 0) = if (firstOf f k j || j == f k) = true then 1 else 0
  by_cases e : j = f k
  · rw [if_pos e, if_pos (by rw [e]; simp)]
  · rw [if_neg e]
    have : (j == f k) = false := by rw [beq_eq_false_iff_ne]; exact e
    rw [this, Bool.or_false]
theorem seen_new {f : Nat → Nat} (hi : Inj f) (k : Nat) : seenOf f k (f k) = 0 := by
  show (if firstOf f k (f k) = true then 1 else 0) = 0
  rw [if_neg]
  intro h
  obtain ⟨t, h1, h2⟩ := firstOf_iff.1 h
  have := hi _ _ h2
  omega
set_option maxHeartbeats 4000000 in
set_option maxRecDepth 100000 in
theorem sorted_walk (A : Option Addr) (n c : Nat) (xs : List Nat) (w : World) (hx : Fs w A n xs ∧ n * 8 ≤ 140737488351232) :
    Calls Try.prog 4 #[.slice A n c] w fun e w' => e = .returned (.bool true) ∧ Below w.heap.size w w' := by
  obtain ⟨h, hn⟩ := hx
  have hn2 : n ≤ 17592186044400 := by omega
  have hmk := fun w => run_make_int (n : Int) (by omega) (by omega) w
  rw [show ((n : Int)).toNat = n by omega] at hmk
  have HF := Lib.hid h
  have HN := Lib.hid hn2
  have HL := Lib.hid h.len
  clear h hn
  go_enter Try.func4, Try.ntmps4
  go_wp2_with fail
  refine (awake01_c _).mono ?_
  rintro e w1 ⟨rfl, hb1⟩
  have HB1 := Lib.hid hb1
  have HF1 := Lib.hid (HF.out.below hb1)
  clear hb1
  go_wp2_with fail
  refine (rank_c A n c xs w1 HF1.out HN.out).mono ?_
  rintro e w2 ⟨f, rfl, hA2, hM, hS, hb2⟩
  have HA2 := Lib.hid hA2
  have HM := Lib.hid hM
  have HS := Lib.hid hS
  have HI : Hid (Inj f) := Lib.hid (hM.inj fun _ _ e => e)
  have HLT : Hid (∀ k, k < n → f k < n) := Lib.hid (fun k hk => by
    obtain ⟨t, _, q2, q3⟩ := hM.at_ k (Nat.zero_le _) hk
    rw [q3]; exact q2)
  have HF2 := Lib.hid (HF1.out.below hb2)
  have HB2 : Hid (Below w.heap.size w w2) := Lib.hid (HB1.out.trans (hb2.mono HB1.out.size))
  obtain ⟨g, hg⟩ : ∃ g, w1.heap.size + 1 = g := ⟨_, rfl⟩
  rw [hg] at HA2 ⊢
  have hgl : g < w2.heap.size := HA2.out.lt
  clear hA2 hM hS hb2 hg HF1 HB1
  go_wp2_with fail
  have A0 : Arr (w2.alloc (Obj.cells (inl n fun _ => 0).toArray 3)) w2.heap.size n (seenOf f 0) := (Arr.of_row (Row.new w2 3 (inl n fun _ => 0)) (by omega)).congr (by funext j; rfl)
  have L0 : Below w2.heap.size w2 (w2.alloc (Obj.cells (inl n fun _ => 0).toArray 3)) := (Below.refl w2.heap.size w2).alloc (Nat.le_refl _) _
  have HA0 := Lib.hid A0
  have HL0 := Lib.hid L0
  clear A0 L0
  obtain ⟨s, hs⟩ : ∃ s, w2.heap.size = s := ⟨_, rfl⟩
  rw [hs] at HA0 HL0 hgl ⊢
  have HSS := Lib.hid hs
  clear hs
  go_loopw [6, 7, 8] (fun x y _ wr => ∃ k : Nat, k ≤ n ∧ x = .int .i64 (cnt (numAt xs) k : Nat) ∧ y = .int .i64 k ∧ Arr wr s n (seenOf f k) ∧ Below s w2 wr) (fun _ y _ _ => n - (intOf y).toNat)
  case atStart => exact ⟨0, by omega, rfl, rfl, HA0.out, HL0.out⟩
  case round =>
    obtain ⟨k, hk, rfl, rfl, hA, hB⟩ := hrel
    clear HA0 HL0
    have HA := Lib.hid hA
    have HB := Lib.hid hB
    clear hA hB
    by_cases hkn : k < n
    · have d0 : decide ((k : Int) < (n : Int)) = true := decide_eq_true (by omega)
      obtain ⟨ad, hAd, hc⟩ := HF2.out.at_ (by omega)
      subst hAd
      have hadl : ∀ j, j < n → ad.block < s := fun j hj => by
        have := cell_lt (hc j hj)
        rw [add_block, HSS.out] at this
        exact this
      have HAD := Lib.hid (hadl 0 (by omega))
      have HCE := Lib.hid hc
      clear hc hadl
      have hv := HLT.out k hkn
      have cg := (HA2.out.below HB.out hgl).cell k hkn
      have cs := HA.out.cell (f k) hv
      rw [seen_new HI.out k] at cs
      have fs := HA.out.fro (f k) hv
      have HNX : Hid (Arr (wr.setCell ⟨s, f k, none⟩ (.int .i64 1)) s n (seenOf f (k + 1))) := Lib.hid ((HA.out.set hv 1).congr (seen_next f k))
      have HBX : Hid (Below s w2 (wr.setCell ⟨s, f k, none⟩ (.int .i64 1))) := Lib.hid (HB.out.setCell (p := ⟨s, f k, none⟩) (Nat.le_refl _) _)
      have hne : g ≠ s := by omega
      obtain ⟨v, hfv⟩ : ∃ v, f k = v := ⟨_, rfl⟩
      rw [hfv] at hv cg cs fs HNX HBX
      have HFV := Lib.hid hfv
      clear hfv
      have v1 : decide ((v : Int) < 0) = false := decide_eq_false (by omega)
      have v2 : decide ((n : Int) ≤ (v : Int)) = false := decide_eq_false (by omega)
      have v3 : (v : Int) < (n : Int) := by omega
      go_upto_region 13 with fail
      generalize World.setCell wr ⟨s, v, none⟩ (Value.int .i64 1) = wz at *
      have HG : Hid (Arr wz g n f) := Lib.hid (HA2.out.below HBX.out hgl)
      have HCZ : Hid (∀ j, j < n → wz.cell? (ad.add j) = some (.float .f64 (xs.getD j 0))) := Lib.hid fun j hj => by
        rw [HBX.out.cell (p := ad.add j) (by rw [add_block]; exact HAD.out)]; exact HCE.out j hj
      have cgk := HG.out.cell k hkn
      rw [HFV.out] at cgk
      have cl := HCZ.out k hkn
      have cv := HCZ.out v hv
      have wv := HF.out.word v
      have he := (Fl.eql (xs.getD k 0) (xs.getD k 0)).trans (Fl.eqB_self _)
      have kn := Lib.hid (show cnt (numAt xs) (k + 1) = cnt (numAt xs) k + if (!Fl.nan (xs.getD k 0)) = true then 1 else 0 from rfl)
      have kle : cnt (numAt xs) k ≤ k := by
        have := cnt_le (p := numAt xs) (q := fun _ => true) (n := k) fun _ _ _ => rfl
        rw [cnt_all] at this
        exact this
      generalize cnt (numAt xs) k = t at *
      clear cg cs fs
      obtain ⟨x, hx⟩ : ∃ x, xs.getD k 0 = x := ⟨_, rfl⟩
      rw [hx] at cl he kn
      clear hx
      cases hnx : Fl.nan x with
      | true =>
        rw [hnx] at he kn
        have KN := kn
        clear hnx kn
        by_cases hk0 : k = 0
        · have g1 : decide ((0 : Int) < (k : Int)) = false := decide_eq_false (by omega)
          have g2 : ¬ (0 : Int) < (k : Int) := by omega
          have g3 : decide (0 < k) = false := decide_eq_false (by omega)
          have g4 : ¬ 0 < k := by omega
          clear hk0
          go_wp2_with fail
          go_quiet (fail)
          go_wp2_with fail
          go_roundw
          case rel => exact ⟨k + 1, by omega, by rw [KN.out]; go_num, by go_num, HNX.out.drewN _, below_moreN HBX.out _⟩
          case measure => simp [intOf] <;> omega
        · obtain ⟨y, hy⟩ : ∃ y, k = y + 1 := ⟨k - 1, by omega⟩
          have hyi : (k : Int) - 1 = (y : Int) := by omega
          have g1 : decide ((0 : Int) < (k : Int)) = true := decide_eq_true (by omega)
          have g2 : (0 : Int) < (k : Int) := by omega
          have hyn : y < n := by omega
          have cgy := HG.out.cell y (by omega)
          have hu := HLT.out y (by omega)
          have cu := HCZ.out (f y) hu
          have wu := HF.out.word (f y)
          have NO := next_ord HS.out (k := y) (by omega)
          rw [← hy, HFV.out] at NO
          clear hk0 hy
          obtain ⟨q, hq⟩ : ∃ q, f y = q := ⟨_, rfl⟩
          rw [hq] at cgy hu cu wu NO
          clear hq
          obtain ⟨a, ha⟩ : ∃ a, xs.getD q 0 = a := ⟨_, rfl⟩
          obtain ⟨d, hd⟩ : ∃ d, xs.getD v 0 = d := ⟨_, rfl⟩
          rw [ha] at cu wu NO
          rw [hd] at cv wv NO
          have CO := Lib.hid (order_c a d wu wv)
          clear ha hd
          obtain ⟨o, ho⟩ : ∃ o, Fl.ordV a d = o := ⟨_, rfl⟩
          rw [ho] at CO NO
          clear ho
          rcases NO with rfl | ⟨rfl, hqv⟩
          · go_wp2_with fail
            go_quiet ((go_at_call 12; refine (CO.out _).mono ?_; rintro e w' ⟨rfl, rfl⟩; exact ⟨rfl, _, rfl⟩))
            go_wp2_with fail
            go_quiet ((go_at_call 12; refine (CO.out _).mono ?_; rintro e w' ⟨rfl, rfl⟩; exact ⟨rfl, _, rfl⟩))
            go_wp2_with fail
            go_quiet (fail)
            go_wp2_with fail
            go_roundw
            case rel => exact ⟨k + 1, by omega, by rw [KN.out]; go_num, by go_num, HNX.out.drewN _, below_moreN HBX.out _⟩
            case measure => simp [intOf] <;> omega
          · have d5 : decide ((v : Int) < (q : Int)) = false := decide_eq_false (by omega)
            go_wp2_with fail
            go_quiet ((go_at_call 12; refine (CO.out _).mono ?_; rintro e w' ⟨rfl, rfl⟩; exact ⟨rfl, _, rfl⟩))
            go_wp2_with fail
            go_quiet ((go_at_call 12; refine (CO.out _).mono ?_; rintro e w' ⟨rfl, rfl⟩; exact ⟨rfl, _, rfl⟩))
            go_wp2_with fail
            go_quiet (fail)
            go_wp2_with fail
            go_roundw
            case rel => exact ⟨k + 1, by omega, by rw [KN.out]; go_num, by go_num, HNX.out.drewN _, below_moreN HBX.out _⟩
            case measure => simp [intOf] <;> omega
      | false =>
        rw [hnx] at he kn
        have KN := kn
        clear hnx kn
        by_cases hk0 : k = 0
        · have g1 : decide ((0 : Int) < (k : Int)) = false := decide_eq_false (by omega)
          have g2 : ¬ (0 : Int) < (k : Int) := by omega
          have g3 : decide (0 < k) = false := decide_eq_false (by omega)
          have g4 : ¬ 0 < k := by omega
          clear hk0
          go_wp2_with fail
          go_quiet (fail)
          go_wp2_with fail
          go_roundw
          case rel => exact ⟨k + 1, by omega, by rw [KN.out]; go_num, by go_num, HNX.out.drewN _, below_moreN HBX.out _⟩
          case measure => simp [intOf] <;> omega
        · obtain ⟨y, hy⟩ : ∃ y, k = y + 1 := ⟨k - 1, by omega⟩
          have hyi : (k : Int) - 1 = (y : Int) := by omega
          have g1 : decide ((0 : Int) < (k : Int)) = true := decide_eq_true (by omega)
          have g2 : (0 : Int) < (k : Int) := by omega
          have hyn : y < n := by omega
          have cgy := HG.out.cell y (by omega)
          have hu := HLT.out y (by omega)
          have cu := HCZ.out (f y) hu
          have wu := HF.out.word (f y)
          have NO := next_ord HS.out (k := y) (by omega)
          rw [← hy, HFV.out] at NO
          clear hk0 hy
          obtain ⟨q, hq⟩ : ∃ q, f y = q := ⟨_, rfl⟩
          rw [hq] at cgy hu cu wu NO
          clear hq
          obtain ⟨a, ha⟩ : ∃ a, xs.getD q 0 = a := ⟨_, rfl⟩
          obtain ⟨d, hd⟩ : ∃ d, xs.getD v 0 = d := ⟨_, rfl⟩
          rw [ha] at cu wu NO
          rw [hd] at cv wv NO
          have CO := Lib.hid (order_c a d wu wv)
          clear ha hd
          obtain ⟨o, ho⟩ : ∃ o, Fl.ordV a d = o := ⟨_, rfl⟩
          rw [ho] at CO NO
          clear ho
          rcases NO with rfl | ⟨rfl, hqv⟩
          · go_wp2_with fail
            go_quiet ((go_at_call 12; refine (CO.out _).mono ?_; rintro e w' ⟨rfl, rfl⟩; exact ⟨rfl, _, rfl⟩))
            go_wp2_with fail
            go_quiet ((go_at_call 12; refine (CO.out _).mono ?_; rintro e w' ⟨rfl, rfl⟩; exact ⟨rfl, _, rfl⟩))
            go_wp2_with fail
            go_quiet (fail)
            go_wp2_with fail
            go_roundw
            case rel => exact ⟨k + 1, by omega, by rw [KN.out]; go_num, by go_num, HNX.out.drewN _, below_moreN HBX.out _⟩
            case measure => simp [intOf] <;> omega
          · have d5 : decide ((v : Int) < (q : Int)) = false := decide_eq_false (by omega)
            go_wp2_with fail
            go_quiet ((go_at_call 12; refine (CO.out _).mono ?_; rintro e w' ⟨rfl, rfl⟩; exact ⟨rfl, _, rfl⟩))
            go_wp2_with fail
            go_quiet ((go_at_call 12; refine (CO.out _).mono ?_; rintro e w' ⟨rfl, rfl⟩; exact ⟨rfl, _, rfl⟩))
            go_wp2_with fail
            go_quiet (fail)
            go_wp2_with fail
            go_roundw
            case rel => exact ⟨k + 1, by omega, by rw [KN.out]; go_num, by go_num, HNX.out.drewN _, below_moreN HBX.out _⟩
            case measure => simp [intOf] <;> omega
    · have d0 : decide ((k : Int) < (n : Int)) = false := decide_eq_false (by omega)
      have hkn' : k = n := by omega
      obtain ⟨m, m1, m2, m3⟩ := numbers_first HF.out HM.out HS.out
      rw [← hkn'] at m3
      rw [m3]
      have HM2 := Lib.hid m2
      have HFR : Hid (Fs wr A n xs) := Lib.hid (HF2.out.below (by rw [HSS.out]; exact HB.out))
      have HGR : Hid (Arr wr g n f) := Lib.hid (HA2.out.below HB.out hgl)
      have HE : Hid (Below w.heap.size w wr) := Lib.hid (HB2.out.trans (HB.out.mono (by rw [← HSS.out]; exact HB2.out.size)))
      clear m2 m3 hkn' HA HB
      by_cases hm0 : m = 0
      · have hno : ∀ t, t < n → numAt xs t = false := fun t ht => by
          obtain ⟨u, _, q2, q3⟩ := HM.out.symm.at_ t (Nat.zero_le _) ht
          rw [q3, HM2.out u q2, hm0]; rfl
        have b1 : bestV xs (-1) = (theNan, -1) := by unfold bestV; rw [HL.out, no_numbers hno (-1) (.inr rfl)]; rfl
        have b2 : bestV xs 1 = (theNan, -1) := by unfold bestV; rw [HL.out, no_numbers hno 1 (.inl rfl)]; rfl
        have C1 := least_c A n c xs wr HFR.out
        have C2 := most_c A n c xs wr HFR.out
        rw [b1] at C1
        rw [b2] at C2
        have C1 := Lib.hid C1
        have C2 := Lib.hid C2
        have hnn : (Fl.F.order theNan theNan != some .eq) = true := by rw [Fl.neq_self]; decide
        clear hno b1 b2
        generalize theNan = z at *
        subst hm0
        go_wp2_with fail
        refine C1.out.mono ?_
        rintro e w3 ⟨rfl, rfl⟩
        go_wp2_with fail
        refine C2.out.mono ?_
        rintro e w3 ⟨rfl, rfl⟩
        go_wp2_with fail
        go_ret
        exact ⟨rfl, HE.out⟩
      · obtain ⟨y, hy⟩ : ∃ y, m = y + 1 := ⟨m - 1, by omega⟩
        have hnum : numAt xs (f 0) = true := by rw [HM2.out 0 (by omega), decide_eq_true (by omega)]
        have l1 := least_first HM.out HS.out (by omega) hnum
        obtain ⟨k', l2, l3, l4⟩ := most_last HM.out HS.out m1 (by omega) HM2.out
        have b1 : bestV xs (-1) = (xs.getD (f 0) 0, ((f 0 : Nat) : Int)) := by
          unfold bestV; rw [HL.out, l1, if_neg (by omega)]; simp
        have b2 : bestV xs 1 = (xs.getD k' 0, ((k' : Nat) : Int)) := by
          unfold bestV; rw [HL.out, l2, if_neg (by omega)]; simp
        have C1 := least_c A n c xs wr HFR.out
        have C2 := most_c A n c xs wr HFR.out
        rw [b1] at C1
        rw [b2] at C2
        obtain ⟨ad, hAd, hc⟩ := HFR.out.at_ (by omega)
        subst hAd
        have hq := HLT.out 0 (by omega)
        have hr := HLT.out y (by omega)
        have cq := HGR.out.cell 0 (by omega)
        have cr := HGR.out.cell y (by omega)
        have cp := hc (f 0) hq
        have ce := hc (f y) hr
        have cd := hc k' l3
        rw [show m - 1 = y by omega] at l4
        have S1 := same_c (xs.getD (f 0) 0) (xs.getD (f 0) 0) (HF.out.word _) (HF.out.word _)
        have S2 := same_c (xs.getD k' 0) (xs.getD (f y) 0) (HF.out.word _) (HF.out.word _)
        have S3 := same_c (xs.getD k' 0) (xs.getD k' 0) (HF.out.word _) (HF.out.word _)
        rw [ordV_eq rfl] at S1 S3
        rw [l4] at S2
        have C1 := Lib.hid C1
        have C2 := Lib.hid C2
        have S1 := Lib.hid S1
        have S2 := Lib.hid S2
        have S3 := Lib.hid S3
        have z1 : ((m : Int) == 0) = false := by rw [beq_eq_false_iff_ne]; omega
        have hyi : (m : Int) - 1 = (y : Int) := by omega
        have hyn : y < n := by omega
        have h0n : 0 < n := by omega
        clear hc hnum l1 l2 l4 b1 b2 hy hm0
        generalize xs.getD (f 0) 0 = p at *
        generalize xs.getD (f y) 0 = e0 at *
        generalize xs.getD k' 0 = d at *
        generalize f 0 = q at *
        generalize f y = r at *
        have k1 : decide ((0 : Int) ≤ (k' : Int)) = true := decide_eq_true (by omega)
        have k2 : decide ((k' : Int) < (n : Int)) = true := decide_eq_true (by omega)
        go_wp2_with fail
        refine C1.out.mono ?_
        rintro e w3 ⟨rfl, rfl⟩
        go_wp2_with fail
        refine C2.out.mono ?_
        rintro e w3 ⟨rfl, rfl⟩
        go_wp2_with fail
        refine (S1.out _).mono ?_
        rintro e w3 ⟨rfl, rfl⟩
        go_wp2_with fail
        refine (S2.out _).mono ?_
        rintro e w3 ⟨rfl, rfl⟩
        go_wp2_with fail
        refine (S3.out _).mono ?_
        rintro e w3 ⟨rfl, rfl⟩
        go_wp2_with fail
        go_ret
        exact ⟨rfl, HE.out⟩
end Go.Proofs.Ytmkbbfcecolobaa
