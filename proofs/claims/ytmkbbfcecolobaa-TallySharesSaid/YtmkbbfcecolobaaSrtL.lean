/-
  sameInts; the walk of FigureRanks.
-/
import Derived.Test.YtmkbbfcecolobaaSrtK
import Derived.Test.YtmkbbfcecolobaaFigH
import Derived.Test.YtmkbbfcecolobaaFigF
import Derived.Test.YtmkbbfcecolobaaOpen
import Derived.OwnWalk
namespace Go.Proofs.Ytmkbbfcecolobaa
open Go.RowKit Srt
set_option linter.unusedSimpArgs false

theorem Arr.below {w w1 : World} {g N B : Nat} {f : Nat → Nat} (h : Arr w g N f) (hb : Below B w w1) (hB : g < B) : Arr w1 g N f := Arr.of_row (h.whole.below hb hB) h.small
theorem sameInts_c (g1 g2 n c1 c2 : Nat) (f f' : Nat → Nat) (w : World) (h1 : Arr w g1 n f) (h2 : Arr w g2 n f') (he : ∀ k, k < n → f k = f' k) :
    Calls Try.prog 10 #[.slice (some ⟨g1, 0, none⟩) n c1, .slice (some ⟨g2, 0, none⟩) n c2] w fun e w' => e = .returned (.bool true) ∧ ∃ d, w' = w.drewN d := by
  have hN := h1.small
  have H1 := Lib.hid h1
  have H2 := Lib.hid h2
  have HE := Lib.hid he
  clear h1 h2 he
  go_enter Try.func10, Try.ntmps10
  go_wp2_with fail
  go_loopw [5] (fun x wr => ∃ k : Nat, k ≤ n ∧ x = .int .i64 k ∧ ∃ d, wr = w.drewN d) (fun x _ => n - (intOf x).toNat)
  case atStart => exact ⟨0, by omega, rfl, 0, rfl⟩
  case round =>
    obtain ⟨k, hk, rfl, d, rfl⟩ := hrel
    by_cases hkn : k < n
    · have d0 : decide ((k : Int) < (n : Int)) = true := decide_eq_true (by omega)
      have cx := H1.out.cell k hkn
      have cy := H2.out.cell k hkn
      rw [← HE.out k hkn] at cy
      obtain ⟨u, hu⟩ : ∃ u : Nat, f k = u := ⟨_, rfl⟩
      rw [hu] at cx cy
      have cb : ((u : Int) != (u : Int)) = false := by simp
      clear hu
      go_wp2_with fail
      go_quiet (fail)
      go_wp2_with fail
      go_roundw
      case rel => exact ⟨k + 1, by omega, by go_num, _, rfl⟩
      case measure => simp [intOf] <;> omega
    · have d0 : decide ((k : Int) < (n : Int)) = false := decide_eq_false (by omega)
      go_wp2_with fail
      go_ret
      exact ⟨rfl, _, rfl⟩
set_option maxHeartbeats 4000000 in
set_option maxRecDepth 100000 in
theorem ranks_walk (A : Option Addr) (n c : Nat) (xs : List Nat) (w : World) (hx : Fs w A n xs ∧ n * 8 ≤ 140737488351232) :
    Calls Try.prog 3 #[.slice A n c] w fun e w' => e = .returned (.bool true) ∧ Below w.heap.size w w' := by
  obtain ⟨i0, hi, hz⟩ := Option.map_eq_some_iff.1 infoI
  simp only [Prod.mk.injEq] at hz
  obtain ⟨hz0, hz1, hz2⟩ := hz
  obtain ⟨h, hn⟩ := hx
  have hn2 : n ≤ 17592186044400 := by omega
  have HF := Lib.hid h
  have HN := Lib.hid hn2
  have HL := Lib.hid h.len
  clear h hn
  go_enter Try.func3, Try.ntmps3
  go_wp2_with fail
  refine (awake01_c _).mono ?_
  rintro e w1 ⟨rfl, hb1⟩
  have HB1 := Lib.hid hb1
  have HF1 := Lib.hid (HF.out.below hb1)
  clear hb1
  go_wp2_with fail
  refine (own_c A n c xs w1 HF1.out HN.out).mono ?_
  rintro e w2 ⟨rfl, hr2, hb2⟩
  have HR2 := Lib.hid hr2
  have HF2 := Lib.hid (HF1.out.below hb2)
  have HU2 : Hid (Fs w2 (some ⟨w1.heap.size, 0, none⟩) n xs) := Lib.hid (HL.out ▸ Fs.of_row hr2 (by rw [HL.out]; have := HN.out; omega) HF.out.bits)
  have HB2 : Hid (Below w.heap.size w w2) := Lib.hid (HB1.out.trans (hb2.mono HB1.out.size))
  clear hr2 hb2
  obtain ⟨bu, hbu⟩ : ∃ bu, w1.heap.size = bu := ⟨_, rfl⟩
  rw [hbu] at HU2 HR2 ⊢
  have HBU := Lib.hid hbu
  clear hbu
  go_wp2_with fail
  refine (refRank_c A n c xs w2 HF2.out HN.out).mono ?_
  rintro e w3 ⟨f0, rfl, hA3, hrk, hb3⟩
  have HF3 := Lib.hid (HF2.out.below hb3)
  have HU3 := Lib.hid (HU2.out.below hb3)
  have HR3 := Lib.hid (HR2.out.grown hb3)
  have HA3 := Lib.hid hA3
  have HRK := Lib.hid hrk
  have HB3 : Hid (Below w.heap.size w w3) := Lib.hid (HB2.out.trans (hb3.mono HB2.out.size))
  obtain ⟨g0, hg0⟩ : ∃ g0, w2.heap.size = g0 := ⟨_, rfl⟩
  rw [hg0] at HA3 ⊢
  have hgl : g0 < w3.heap.size := HA3.out.lt
  clear hA3 hrk hb3 hg0 HF2 HU2 HR2 HB2
  go_wp2_with fail
  refine (rank_c _ n _ xs w3 HU3.out HN.out).mono ?_
  rintro e w4 ⟨f1, rfl, hA4, hM4, hS4, hb4⟩
  have HA4 := Lib.hid hA4
  have HE4 := Lib.hid (rk_same hM4 hS4 HRK.out)
  have HB4 := Lib.hid hb4
  have HA34 := Lib.hid (HA3.out.below hb4 hgl)
  have hbw : w3.heap.size ≤ w3.heap.size + 1 := by omega
  obtain ⟨b, hb⟩ : ∃ b, w3.heap.size + 1 = b := ⟨_, rfl⟩
  rw [hb] at HA4 hbw ⊢
  clear hA4 hM4 hS4 hb4 hb
  go_wp2_with fail
  refine (sameInts_c b g0 n _ _ f1 f0 w4 HA4.out HA34.out HE4.out).mono ?_
  rintro e w5 ⟨rfl, d5, rfl⟩
  have HR5 : Hid (Row (w4.drewN d5) b 3 (inl n f1)) := Lib.hid (HA4.out.drewN d5).whole
  have HB5 : Hid (Below w3.heap.size w3 (w4.drewN d5)) := Lib.hid (below_moreN HB4.out d5)
  clear HA4 HE4 HB4 HA34
  go_wp2_with fail
  go_loopw [8] (fun i wr => ∃ (j : Nat) (ys : List Value), j ≤ n ∧ i = .int .i64 j ∧ ys.length = n ∧ Row wr b 3 ys ∧ Below w3.heap.size w3 wr) (fun i _ => n - (intOf i).toNat)
  case atStart => exact ⟨0, inl n f1, by omega, rfl, inl_len _ _, HR5.out, HB5.out⟩
  case round =>
    obtain ⟨j, ys, hj, rfl, hyl, hR, hB⟩ := hrel
    by_cases hlt : j < n
    · have HR := Lib.hid hR
      have HB := Lib.hid hB
      have HY := Lib.hid hyl
      have c0 : wr.cell? ⟨b, j, none⟩ = some ys[j] := by rw [hR.cell, List.getElem?_eq_getElem (by omega)]
      have f0 := hR.frozen j
      generalize ys[j] = y0 at c0
      clear hR hB hyl
      go_wp2
      go_roundw
      case rel => exact ⟨j + 1, ys.set j (.int .i64 (-7)), by omega, by go_num, by rw [List.length_set, HY.out], HR.out.set j _, HB.out.setCell (p := ⟨b, j, none⟩) hbw _⟩
      case measure => simp [intOf]; omega
    · have hjn : j = n := by omega
      subst hjn
      have hown : wr.ownsRow b 3 1 (.slice (some ⟨b, 0, none⟩) j j) j ys := ⟨by omega, .inr ⟨b, j, ys.toArray, rfl, Nat.le_refl _, hR, Nat.le_refl _, by unfold maxLen; omega, by simp [hyl], by rw [Nat.mul_one]; exact List.take_of_length_le (Nat.le_of_eq hyl)⟩⟩
      have HO := Lib.hid hown
      have HB := Lib.hid hB
      have hbs : b < wr.heap.size := hR.lt
      clear hR hB hown
      go_wp2_with (first
        | (at_builtin; refine wpList_append_own _ rfl _ _ 25 rfl b 3 i0 (.int .i64 0) 1 8 Try.underlying25 hi hz0 hz1 hz2 rfl (by decide) _ j ys rfl (World.ownsRow.alloc HO.out _) ⟨wr.heap.size, 0, none⟩ 2 2 [.int .i64 (-7), .int .i64 (-7)] rfl rfl ?c1 ?c2 ?c3 ?c4 ?c5 ?_)
        | go_in)
      case c1 =>
        intro q u hq
        match q, hq with
        | 0, hq => simp at hq; subst hq; exact (Row.new wr _ [_, _]).cell 0
        | 1, hq => simp at hq; subst hq; exact (Row.new wr _ [_, _]).cell 1
      case c2 => intro u hu; simp at hu; subst hu; rfl
      case c3 => unfold maxLen; omega
      case c4 => omega
      case c5 => simp; omega
      intro v' w8 hown' hgrow _
      have HB8 : Hid (Below w3.heap.size w3 w8) := Lib.hid ((HB.out.alloc HB.out.size _).grown hgrow (by have := HB.out.size; simp; omega) (fun q hq => by simp [Value.ownBlock] at hq; omega))
      have HU8 := Lib.hid (HU3.out.below HB8.out)
      clear hown' hgrow HO HB
      go_wp2_with fail
      refine (rank_c _ j _ xs w8 HU8.out HN.out).mono ?_
      rintro e w9 ⟨f9, rfl, hA9, hM9, hS9, hb9⟩
      have HA9 := Lib.hid hA9
      have HE9 := Lib.hid (rk_same hM9 hS9 HRK.out)
      have HB9 : Hid (Below w3.heap.size w3 w9) := Lib.hid (HB8.out.trans (hb9.mono HB8.out.size))
      have HA39 := Lib.hid (HA3.out.below HB9.out hgl)
      clear hA9 hM9 hS9 hb9 HB8 HU8
      go_wp2_with fail
      refine (sameInts_c _ g0 j _ _ f9 f0 w9 HA9.out HA39.out HE9.out).mono ?_
      rintro e w10 ⟨rfl, d10, rfl⟩
      have HB10 : Hid (Below w3.heap.size w3 (w9.drewN d10)) := Lib.hid (below_moreN HB9.out d10)
      have HF10 := Lib.hid (HF3.out.below HB10.out)
      have HR10 := Lib.hid (HR3.out.grown HB10.out)
      clear HA9 HE9 HB9 HA39
      go_wp2_with fail
      refine (still_c A j c bu xs _ HF10.out HN.out HR10.out).mono ?_
      rintro e w11 ⟨rfl, d11, rfl⟩
      have HB11 : Hid (Below w3.heap.size w3 ((w9.drewN d10).drewN d11)) := Lib.hid (below_moreN HB10.out d11)
      rw [drewN_drewN] at HB11
      go_wp2
      go_ret
      exact ⟨rfl, HB3.out.trans (HB11.out.mono HB3.out.size)⟩
end Go.Proofs.Ytmkbbfcecolobaa
