/-
  Shares and fairness by definition: lists that grow by append.
-/
import Derived.Test.YtfiimmbpfdpjfaaFigL
import Derived.Laws.AppendOwn
import Derived.OwnWalk
import Derived.StillTailTactics
namespace Go.Proofs.Ytfiimmbpfdpjfaa
open Go.RowKit
set_option linter.unusedSimpArgs false

/-- what a slice that owns its floats reads as -/
theorem owned_fs {w : World} {base e : Nat} {v : Value} {n : Nat} {xs : List Nat} (h : w.ownsRow base e 1 v n (flo xs)) (hb : ∀ x ∈ xs, x < 18446744073709551616) (hs : n ≤ 140737488355328) :
    ∃ A' c', v = .slice A' n c' ∧ Fs w A' n xs ∧ n ≤ c' ∧ ∀ ad, A' = some ad → base ≤ ad.block := by
  have hl : xs.length = n := by have := h.1; rwa [flo_len, Nat.mul_one] at this
  rcases h.2 with ⟨rfl, rfl⟩ | ⟨g, cap, cur, rfl, hg, hgg, hnc, hcm, hcs, htake⟩
  · exact ⟨none, 0, rfl, ⟨hl, hs, hb, fun h0 => absurd h0 (by omega)⟩, by omega, fun ad he => by cases he⟩
  · refine ⟨_, _, rfl, ⟨hl, hs, hb, fun _ => ⟨_, rfl, fun j hj => ?_⟩⟩, hnc, fun ad he => by cases he; exact hg⟩
    exact h.cells (g := g) rfl j _ (flo_get xs j (by omega))

theorem own_next {w : World} {base : Nat} {W : World} (hB : Below base W w) (hsz : base ≤ w.heap.size) {v : Value} {e n : Nat} {xs : List Value} (hown : w.ownsRow base e 1 v n xs) {w1 : World} (o : Obj) (hg : (w.alloc o).grownBy w1 v.ownBlock) : Below base W w1 :=
  (hB.alloc hsz o).grown hg (by show base ≤ (w.heap.push o).size; rw [Array.size_push]; omega) fun k hk => (hown.lt k hk).1

theorem flo_one (xs : List Nat) (x : Nat) : flo xs ++ [.float .f64 x] = flo (xs ++ [x]) := by simp [flo]

def fairV (xs : List Nat) : Nat :=
  onN (opN .quo (opN .mul (nz (sumV xs)) (nz (sumV xs))) (opN .mul (nz (floatOfInt .f64 (xs.length : Int))) (nz (onN (sumN (xs.map sqN))))))
theorem one_fair (xs : List Nat) (q l : Nat) (hq : q = onN (sumN (xs.map sqN))) (hl : l = floatOfInt .f64 (xs.length : Int)) (w w1 w2 : World) : onev (fa .quo (fa .mul (sumV xs) (sumV xs) w) (fa .mul l q w1) w2) = fairV xs := by
  subst hq
  subst hl
  rw [onev_nz, nz_quo, nz_mul, nz_mul]
  rfl
theorem fair_c (A : Option Addr) (n c : Nat) (xs : List Nat) (w : World) (h : Fs w A n xs) (hc : n ≤ c) :
    Calls Try.prog 29 #[.slice A n c] w fun e w' => e = .returned (.float .f64 (fairV xs)) ∧ Drw w w' := by
  have C := Lib.hid (sum_c A n c xs w h hc)
  have C2 := Lib.hid (fun d => tsq_c A n c xs (w.drewN d) (h.below (Drw.below ⟨d, rfl⟩)) hc)
  have hs := h.small
  have HL := Lib.hid h.len
  clear h hc
  go_enter Try.func29, Try.ntmps29
  go_wp2_with (first | (go_at_call 27; refine C.out.mono ?_; rintro e w' ⟨rfl, ⟨d, rfl⟩⟩) | (go_at_call 45; refine (C2.out _).mono ?_; rintro e w' ⟨rfl, ⟨d2, rfl⟩⟩) | (go_at_call 18; refine (one_c _ _).mono ?_; rintro e w' ⟨rfl, rfl⟩))
  go_ret
  rw [one_fair _ _ _ rfl (by rw [HL.out])]
  exact ⟨rfl, ⟨_, rfl⟩⟩

set_option maxHeartbeats 2000000 in
set_option maxRecDepth 100000 in
theorem refFair_c (A : Option Addr) (n c : Nat) (xs : List Nat) (w : World) (h : Fs w A n xs) (hn : n ≤ 17592186044400) :
    Calls Try.prog 34 #[.slice A n c] w fun e w' => e = .returned (.float .f64 (fairV xs)) ∧ Below w.heap.size w w' := by
  obtain ⟨i0, hi, hz0, hz1, hz2⟩ := info_parts infoF
  have HF := Lib.hid h
  have HL := Lib.hid h.len
  by_cases h0 : n = 0
  · have hx : xs = [] := List.eq_nil_of_length_eq_zero (by rw [h.len, h0])
    have HV : Hid (fairV xs = theNan) := Lib.hid (by rw [hx]; decide)
    subst h0
    clear h hx HF
    go_enter Try.func34, Try.ntmps34
    go_wp2_with (go_at_call 50; refine (none_c _).mono ?_; rintro e w' ⟨rfl, rfl⟩)
    go_ret
    exact ⟨by rw [HV.out]; rfl, Below.refl _ _⟩
  · have e0 : ((n : Int) == 0) = false := beq_eq_false_iff_ne.2 (by omega)
    have HSL := Lib.hid (show (xs.map sqN).length = n by rw [List.length_map, h.len])
    clear h h0
    go_enter Try.func34, Try.ntmps34
    go_wp2
    go_loopw [3, 4, 5] (fun v i _ wr => ∃ (k : Nat) (ts : List Nat), k ≤ n ∧ i = .int .i64 k ∧ ts.map nz = (xs.map sqN).take k ∧ (∀ x ∈ ts, x < 18446744073709551616) ∧ wr.ownsRow w.heap.size 26 1 v k (flo ts) ∧ Below w.heap.size w wr) (fun _ i _ _ => n - (intOf i).toNat)
    case atStart => exact ⟨0, [], by omega, rfl, rfl, (by intro x h; cases h), World.ownsRow_nil _ _ _ _, Below.refl _ _⟩
    case round =>
      obtain ⟨k, ts, hk, rfl, hts, hbt, hown, hB⟩ := hrel
      by_cases hlt : k < n
      · obtain ⟨ad, hA, hcell⟩ := (HF.out.below hB).at_ (by omega)
        have cx := hcell k hlt
        subst hA
        obtain ⟨x, hx⟩ : ∃ x, xs.getD k 0 = x := ⟨_, rfl⟩
        rw [hx] at cx
        have HX := Lib.hid hx
        have HB := Lib.hid hB
        have HT := Lib.hid hts
        have HBT := Lib.hid hbt
        have HO := Lib.hid hown
        have HSZ := Lib.hid (show w.heap.size ≤ wr.heap.size from hB.size)
        clear hB hcell hx hown hts hbt
        go_wp2_with fail
        go_still_tail 8, (by kernel_rfl)
        change wpList _ _ _ _ _ wr.drew
        go_wp2_with (first
          | (at_builtin; refine wpList_append_own _ rfl _ _ 61 rfl w.heap.size 26 i0 (.float .f64 0) 1 8 Try.underlying61 hi hz0 hz1 hz2 rfl (by decide) _ k (flo ts) rfl (World.ownsRow.alloc (w := wr.drew.drewN (fn .mul x x)) HO.out _) ⟨wr.heap.size, 0, none⟩ 1 1 [.float .f64 (fa .mul x x wr.drew)] rfl rfl ?c1 ?c2 ?c3 ?c4 ?c5 ?_)
          | go_in)
        case c1 =>
          intro j u hj
          match j, hj with
          | 0, hj => simp at hj; subst hj; exact (Row.new (wr.drew.drewN (fn .mul x x)) _ [_]).cell 0
        case c2 => intro u hu; simp at hu; subst hu; rfl
        case c3 => unfold maxLen; omega
        case c4 => omega
        case c5 => have := HSZ.out; simp; omega
        intro v' w1 hown' hgrow _
        have HO1 := Lib.hid hown'
        have HG1 := Lib.hid hgrow
        clear hown' hgrow
        go_wp2
        go_roundw
        case rel =>
          refine ⟨k + 1, ts ++ [fa .mul x x wr.drew], by omega, by go_num, ?_, ?_, ?_, ?_⟩
          · rw [List.map_append, HT.out, List.take_add_one, List.map_cons, List.map_nil, nz_mul]
            rw [List.getElem?_eq_getElem (by rw [HSL.out]; exact hlt)]
            have := getD_tsq xs k (by rw [HL.out]; exact hlt)
            rw [HX.out, List.getD_eq_getElem?_getD, List.getElem?_eq_getElem (by rw [HSL.out]; exact hlt)] at this
            show _ ++ [sqN x] = _ ++ [_]
            rw [← this]
            rfl
          · intro y hy
            rcases List.mem_append.1 hy with hy | hy
            · exact HBT.out y hy
            · rw [List.mem_singleton.1 hy]; exact fa_lt _ _ _ _
          · have := HO1.out
            rw [flo_one] at this
            exact this
          · exact own_next (w := wr.drewN (1 + fn .mul x x)) (below_drewN HB.out _) HSZ.out (HO.out : (wr.drewN (1 + fn .mul x x)).ownsRow _ _ _ _ _ _) _ HG1.out
        case measure => simp [intOf]; omega
      · have hkn : k = n := by omega
        subst hkn
        rw [List.take_of_length_le (Nat.le_of_eq HSL.out)] at hts
        obtain ⟨A', c', rfl, hF, _, hA'⟩ := owned_fs hown hbt (by omega)
        have HF2 := HF.out.below hB
        have HB := Lib.hid hB
        have C := Lib.hid (refSum_c A k c xs wr HF2)
        have C2 := Lib.hid (fun d => refSum_c A' k c' ts (wr.drewN d) (hF.below (Drw.below ⟨d, rfl⟩)))
        have HV := Lib.hid (show sumV ts = onN (sumN (xs.map sqN)) by unfold sumV; rw [hts])
        clear hF hA' hB hown hts hbt HF2 HF
        go_wp2_with (first
          | (go_at_call 32; first | ((with_reducible refine C.out.mono ?_); rintro e w' ⟨rfl, ⟨d, rfl⟩⟩) | (refine (C2.out _).mono ?_; rintro e w' ⟨rfl, ⟨d2, rfl⟩⟩))
          | (go_at_call 35; refine (refOne_c _ _).mono ?_; rintro e w' ⟨rfl, rfl⟩))
        go_ret
        rw [one_fair _ _ _ HV.out (by rw [HL.out])]
        refine ⟨rfl, ?_⟩
        exact below_drewN HB.out _
end Go.Proofs.Ytfiimmbpfdpjfaa
