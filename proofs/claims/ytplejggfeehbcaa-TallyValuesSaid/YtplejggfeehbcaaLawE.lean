/-
  The walk of FigureSums: Sum, Mean, Share, Fair of any list are the document's; the shares are their owner's; the list stays.
-/
import Derived.Test.YtplejggfeehbcaaFigM
import Derived.Test.YtplejggfeehbcaaOpen
namespace Go.Proofs.Ytplejggfeehbcaa
open Go.RowKit
set_option linter.unusedSimpArgs false

theorem Fs.drw' {w w' : World} {A : Option Addr} {n : Nat} {xs : List Nat} (h : Fs w A n xs) (d : Drw w w') : Fs w' A n xs := h.below d.below
theorem Fs.set_far {w : World} {A : Option Addr} {n : Nat} {xs : List Nat} (h : Fs w A n xs) (p : Addr) (v : Value) (hne : ∀ ad, A = some ad → ad.block ≠ p.block) : Fs (w.setCell p v) A n xs :=
  ⟨h.len, h.small, h.bits, fun hn => by
    obtain ⟨ad, e, hc⟩ := h.at_ hn
    refine ⟨ad, e, fun j hj => ?_⟩
    rw [World.cell?_of_block (w := w) (a := ad.add j) (Below.heap_setCell w p v _ (by rw [add_block]; exact hne ad e))]
    exact hc j hj⟩
theorem Fs.grown {w w' : World} {row : Option Nat} {A : Option Addr} {n : Nat} {xs : List Nat} (h : Fs w A n xs) (hg : w.grownBy w' row) (hne : ∀ ad, A = some ad → some ad.block ≠ row) : Fs w' A n xs :=
  ⟨h.len, h.small, h.bits, fun hn => by
    obtain ⟨ad, e, hc⟩ := h.at_ hn
    refine ⟨ad, e, fun j hj => ?_⟩
    exact hg.cell (hc j hj) (by rw [add_block]; exact hne ad e)⟩
theorem Fs.alloc {w : World} {A : Option Addr} {n : Nat} {xs : List Nat} (h : Fs w A n xs) (o : Obj) : Fs (w.alloc o) A n xs := h.below ((Below.refl _ _).alloc (Nat.le_refl _) o)
/-- the caller's list, its copy with the marks -/
structure Keep (A : Option Addr) (n : Nat) (xs : List Nat) (b : Nat) (w : World) : Prop where
  arg : Fs w A n xs
  own : Fs w (some ⟨b, 0, none⟩) n xs
  row : Row w b 24 (flo xs ++ [.float .f64 4635118810238550016, .float .f64 4635189178982727680])
theorem Keep.below {A : Option Addr} {n : Nat} {xs : List Nat} {b : Nat} {w w' : World} (h : Keep A n xs b w) (hb : Below w.heap.size w w') : Keep A n xs b w' := ⟨h.arg.below hb, h.own.below hb, h.row.grown hb⟩
theorem Keep.drewN {A : Option Addr} {n : Nat} {xs : List Nat} {b : Nat} {w : World} (h : Keep A n xs b w) (m : Nat) : Keep A n xs b (w.drewN m) := h.below (Drw.below ⟨m, rfl⟩)
theorem row_owns {w : World} {g e n B : Nat} {ys : List Value} (h : Row w g e ys) (hl : ys.length = n) (hn : n ≤ 17592186044400) (hB : B ≤ g) : w.ownsRow B e 1 (.slice (some ⟨g, 0, none⟩) n n) n ys :=
  ⟨by omega, .inr ⟨g, n, ys.toArray, rfl, hB, h, Nat.le_refl _, by unfold maxLen; omega, by simp [hl], by simp [List.take_of_length_le (Nat.le_of_eq hl)]⟩⟩

theorem two_cells (w : World) (e : TypeId) (u v : Value) (j : Nat) (x : Value) (h : [u, v][j]? = some x) : (w.alloc (.cells #[u, v] e)).cell? ((⟨w.heap.size, 0, none⟩ : Addr).add j) = some x := by
  rw [add_zero, (Row.new w e [u, v]).cell]
  exact h

set_option maxHeartbeats 4000000 in
set_option maxRecDepth 100000 in
theorem sums_walk (A : Option Addr) (n c : Nat) (xs : List Nat) (w : World) (hx : Fs w A n xs ∧ n * 8 ≤ 140737488351232) :
    Calls Try.prog 9 #[.slice A n c] w fun e w' => e = .returned (.bool true) ∧ Below w.heap.size w w' := by
  obtain ⟨h, hn⟩ := hx
  have hn2 : n ≤ 17592186044400 := by omega
  obtain ⟨i0, hi, hz0, hz1, hz2⟩ := info_parts infoF
  have HF := Lib.hid h
  have HN := Lib.hid hn2
  have HL := Lib.hid h.len
  have HSL := Lib.hid (show (shareL xs).length = n by rw [shareL_len, h.len])
  clear h hn hn2
  go_enter Try.func9, Try.ntmps9
  go_wp2_with fail
  refine (awake01_c _).mono ?_
  rintro e w1 ⟨rfl, hb1⟩
  have HB1 := Lib.hid hb1
  have HF1 := Lib.hid (HF.out.below hb1)
  clear hb1
  go_wp2_with fail
  refine (own_c A n c xs w1 HF1.out HN.out).mono ?_
  rintro e w2 ⟨rfl, hr2, hb2⟩
  have HB2 : Hid (Below w.heap.size w w2) := Lib.hid (HB1.out.trans (hb2.mono HB1.out.size))
  have HW12 : Hid (w.heap.size ≤ w1.heap.size ∧ w1.heap.size < w2.heap.size) := Lib.hid ⟨HB1.out.size, hr2.lt⟩
  have K2 : Hid (Keep A n xs w1.heap.size w2) := Lib.hid ⟨HF1.out.below hb2, HL.out ▸ Fs.of_row hr2 (by rw [HL.out]; have := HN.out; omega) HF.out.bits, hr2⟩
  clear hr2 hb2
  go_wp2_with fail
  refine (share_c _ n (n + 2) xs w2 K2.out.own (by omega) HN.out).mono ?_
  rintro e w3 ⟨rfl, hr3, hb3⟩
  have HR3 := Lib.hid hr3
  have HB3 := Lib.hid hb3
  have HW23 : Hid (w2.heap.size < w3.heap.size) := Lib.hid hr3.lt
  have K3 := Lib.hid (K2.out.below hb3)
  clear hr3 hb3
  go_wp2_with fail
  refine (refShare_c A n c xs w3 K3.out.arg HN.out).mono ?_
  rintro e w4 ⟨A', c', rfl, hf4, ha4, hb4⟩
  have HF4 := Lib.hid hf4
  have HA4 := Lib.hid ha4
  have HR4 := Lib.hid (HR3.out.grown hb4)
  have HB4 : Hid (Below w2.heap.size w2 w4) := Lib.hid (HB3.out.trans (hb4.mono HB3.out.size))
  clear hf4 ha4 hb4 HR3 HB3 K3
  have hn3 := HN.out
  go_wp2_with fail
  go_loopw [7] (fun i wr => ∃ k : Nat, k ≤ n ∧ i = .int .i64 k ∧ Drw w4 wr) (fun i _ => n - (intOf i).toNat)
  case atStart => exact ⟨0, by omega, rfl, Drw.refl _⟩
  case round =>
    obtain ⟨k, hk, rfl, ⟨d, rfl⟩⟩ := hrel
    by_cases hlt : k < n
    · obtain ⟨ad, hA, hcell⟩ := HF4.out.at_ (by omega)
      have cx := hcell k hlt
      have cu : w4.cell? ⟨w2.heap.size, k, none⟩ = some (.float .f64 ((shareL xs).getD k 0)) := by
        rw [HR4.out.cell, flo_get _ _ (by rw [HSL.out]; exact hlt)]
      generalize (shareL xs).getD k 0 = x at *
      subst hA
      clear hcell
      have CB := Lib.hid (bits_c x x)
      rw [decide_eq_true rfl] at CB
      go_wp2_with fail
      go_quiet ((go_at_call 23; refine (CB.out _).mono ?_; rintro e w' ⟨rfl, rfl⟩; exact ⟨rfl, _, rfl⟩))
      go_wp2
      go_roundw
      case rel => exact ⟨k + 1, by omega, by go_num, ⟨_, rfl⟩⟩
      case measure => simp [intOf]; omega
    · have hkn : k = n := by omega
      subst hkn
      clear hlt hk
      have HB5 : Hid (Below w2.heap.size w2 (w4.drewN d)) := Lib.hid (below_drewN HB4.out d)
      have HF5 : Hid (Fs (w4.drewN d) A' k (shareL xs)) := Lib.hid (HF4.out.drw' ⟨d, rfl⟩)
      have HR5 : Hid (Row (w4.drewN d) w2.heap.size 24 (flo (shareL xs))) := Lib.hid (HR4.out.drewN d)
      clear HB4 HF4 HR4
      generalize w4.drewN d = w5 at *
      go_wp2_with fail
      go_loopw [9] (fun i wr => ∃ (j : Nat) (ys : List Value), j ≤ k ∧ i = .int .i64 j ∧ ys.length = k ∧ Row wr w2.heap.size 24 ys ∧ Fs wr A' k (shareL xs) ∧ Below w2.heap.size w2 wr) (fun i _ => k - (intOf i).toNat)
      case atStart => exact ⟨0, _, by omega, rfl, by rw [flo_len, HSL.out], HR5.out, HF5.out, HB5.out⟩
      case round =>
        obtain ⟨j, ys, hj, rfl, hyl, hR, hF, hB⟩ := hrel
        by_cases hlt : j < k
        · have cu : wr.cell? ⟨w2.heap.size, j, none⟩ = ys[j]? := hR.cell j
          rw [List.getElem?_eq_getElem (by omega)] at cu
          have fu := hR.frozen j
          generalize ys[j]'(by omega) = y at *
          have HYL := Lib.hid hyl
          have HR := Lib.hid hR
          have HFr := Lib.hid hF
          have HB := Lib.hid hB
          clear hyl hR hF hB
          go_wp2
          go_roundw
          case rel =>
            exact ⟨j + 1, ys.set j (.float .f64 4617315517961601024), by omega, by go_num, by rw [List.length_set]; exact HYL.out, HR.out.set _ _,
              HFr.out.set_far _ _ (fun ad he => by have := HA4.out ad he; have := HW23.out; show ad.block ≠ w2.heap.size; omega), HB.out.setCell (p := ⟨w2.heap.size, j, none⟩) (Nat.le_refl _) _⟩
          case measure => simp [intOf]; omega
        · have hjk : j = k := by omega
          subst hjk
          clear hlt hj
          have HO := Lib.hid (row_owns hR hyl HN.out (Nat.le_refl _))
          have HFr := Lib.hid hF
          have HB := Lib.hid hB
          have HSZ := Lib.hid hR.lt
          clear hyl hR hF hB HB5 HF5 HR5
          go_wp2_with (first
            | (at_builtin; refine wpList_append_own _ rfl _ _ 31 rfl w2.heap.size 24 i0 (.float .f64 0) 1 8 Try.underlying31 hi hz0 hz1 hz2 rfl (by decide) _ j ys rfl (World.ownsRow.alloc (w := wr) HO.out _) ⟨wr.heap.size, 0, none⟩ 2 2 [.float .f64 4617315517961601024, .float .f64 4617315517961601024] rfl rfl ?c1 ?c2 ?c3 ?c4 ?c5 ?_)
            | go_in)
          case c1 => intro i u hi; exact two_cells wr _ _ _ i u hi
          case c2 => intro u hu; simp at hu; subst hu; rfl
          case c3 => unfold maxLen; omega
          case c4 => omega
          case c5 => have := HSZ.out; simp; omega
          intro v' w6 _ hgrow _
          have HB6 : Hid (Below w2.heap.size w2 w6) := Lib.hid (own_next HB.out (Nat.le_of_lt HSZ.out) HO.out _ hgrow)
          have HF6 : Hid (Fs w6 A' j (shareL xs)) := Lib.hid ((HFr.out.alloc _).grown hgrow (fun ad he => by
            have := HA4.out ad he
            have := HW23.out
            simp [Value.ownBlock]
            omega))
          clear hgrow HB HFr HO
          have K6 := Lib.hid (K2.out.below HB6.out)
          go_wp2_with fail
          refine (share_c _ j (j + 2) xs w6 K6.out.own (by omega) HN.out).mono ?_
          rintro e w7 ⟨rfl, hr7, hb7⟩
          have HR7 := Lib.hid hr7
          have HF7 := Lib.hid (HF6.out.below hb7)
          have HB7 : Hid (Below w2.heap.size w2 w7) := Lib.hid (HB6.out.trans (hb7.mono HB6.out.size))
          have K7 := Lib.hid (K6.out.below hb7)
          clear hr7 hb7
          go_wp2_with fail
          go_loopw [11] (fun i wr => ∃ q : Nat, q ≤ j ∧ i = .int .i64 q ∧ Drw w7 wr) (fun i _ => j - (intOf i).toNat)
          case atStart => exact ⟨0, by omega, rfl, Drw.refl _⟩
          case round =>
            obtain ⟨q, hq, rfl, ⟨d, rfl⟩⟩ := hrel
            by_cases hlt : q < j
            · obtain ⟨ad, hA, hcell⟩ := HF7.out.at_ (by omega)
              have cx := hcell q hlt
              have cu : w7.cell? ⟨w6.heap.size, q, none⟩ = some (.float .f64 ((shareL xs).getD q 0)) := by
                rw [HR7.out.cell, flo_get _ _ (by rw [HSL.out]; exact hlt)]
              generalize (shareL xs).getD q 0 = x at *
              subst hA
              clear hcell
              have CB := Lib.hid (bits_c x x)
              rw [decide_eq_true rfl] at CB
              go_wp2_with fail
              go_quiet ((go_at_call 23; refine (CB.out _).mono ?_; rintro e w' ⟨rfl, rfl⟩; exact ⟨rfl, _, rfl⟩))
              go_wp2
              go_roundw
              case rel => exact ⟨q + 1, by omega, by go_num, ⟨_, rfl⟩⟩
              case measure => simp [intOf]; omega
            · have hqj : q = j := by omega
              subst hqj
              clear hlt hq HF7 HR7 HF6
              have K8 := Lib.hid (K7.out.drewN d)
              have HB8 : Hid (Below w2.heap.size w2 (w7.drewN d)) := Lib.hid (below_drewN HB7.out d)
              generalize w7.drewN d = w8 at *
              go_wp2_with fail
              refine (sum_c _ q (q + 2) xs w8 K8.out.own (by omega)).mono ?_
              rintro e w9 ⟨rfl, hd9⟩
              have K9 := Lib.hid (K8.out.below hd9.below)
              have HB9 : Hid (Below w2.heap.size w2 w9) := Lib.hid (HB8.out.trans (hd9.below.mono HB8.out.size))
              clear hd9
              go_wp2_with fail
              refine (refSum_c A q c xs w9 K9.out.arg).mono ?_
              rintro e w10 ⟨rfl, hd10⟩
              have K10 := Lib.hid (K9.out.below hd10.below)
              have HB10 : Hid (Below w2.heap.size w2 w10) := Lib.hid (HB9.out.trans (hd10.below.mono HB9.out.size))
              clear hd10
              go_wp2_with fail
              refine (bits_c _ _ _).mono ?_
              rintro e w11 ⟨rfl, rfl⟩
              rw [decide_eq_true rfl]
              go_wp2_with fail
              refine (mean_c _ q (q + 2) xs w10 K10.out.own (by omega)).mono ?_
              rintro e w11 ⟨rfl, hd11⟩
              have K11 := Lib.hid (K10.out.below hd11.below)
              have HB11 : Hid (Below w2.heap.size w2 w11) := Lib.hid (HB10.out.trans (hd11.below.mono HB10.out.size))
              clear hd11
              go_wp2_with fail
              refine (refMean_c A q c xs w11 K11.out.arg).mono ?_
              rintro e w12 ⟨rfl, hd12⟩
              have K12 := Lib.hid (K11.out.below hd12.below)
              have HB12 : Hid (Below w2.heap.size w2 w12) := Lib.hid (HB11.out.trans (hd12.below.mono HB11.out.size))
              clear hd12
              go_wp2_with fail
              refine (bits_c _ _ _).mono ?_
              rintro e w13 ⟨rfl, rfl⟩
              rw [decide_eq_true rfl]
              go_wp2_with fail
              refine (fair_c _ q (q + 2) xs w12 K12.out.own (by omega)).mono ?_
              rintro e w13 ⟨rfl, hd13⟩
              have K13 := Lib.hid (K12.out.below hd13.below)
              have HB13 : Hid (Below w2.heap.size w2 w13) := Lib.hid (HB12.out.trans (hd13.below.mono HB12.out.size))
              clear hd13
              go_wp2_with fail
              refine (refFair_c A q c xs w13 K13.out.arg HN.out).mono ?_
              rintro e w14 ⟨rfl, hd14⟩
              have K14 := Lib.hid (K13.out.below hd14)
              have HB14 : Hid (Below w2.heap.size w2 w14) := Lib.hid (HB13.out.trans (hd14.mono HB13.out.size))
              clear hd14
              go_wp2_with fail
              refine (bits_c _ _ _).mono ?_
              rintro e w15 ⟨rfl, rfl⟩
              rw [decide_eq_true rfl]
              go_wp2_with fail
              refine (still_c A q c w1.heap.size xs w14 K14.out.arg HN.out K14.out.row).mono ?_
              rintro e w15 ⟨rfl, hd15⟩
              have HB15 : Hid (Below w2.heap.size w2 w15) := Lib.hid (HB14.out.trans (hd15.below.mono HB14.out.size))
              clear hd15
              go_wp2
              go_ret
              exact ⟨rfl, HB2.out.trans (HB15.out.mono HB2.out.size)⟩
end Go.Proofs.Ytplejggfeehbcaa
