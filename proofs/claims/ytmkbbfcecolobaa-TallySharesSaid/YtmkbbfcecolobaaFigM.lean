/-
  Shares and fairness by definition: lists that grow by append.
-/
import Derived.Test.YtmkbbfcecolobaaFigL
import Derived.Laws.AppendOwn
import Derived.OwnWalk
import Derived.StillTailTactics
namespace Go.Proofs.Ytmkbbfcecolobaa
open Go.RowKit
set_option linter.unusedSimpArgs false

/-- what a slice that owns its floats reads as -/
theorem owned_fs {w : World} {base e : Nat} {v : Value} {n : Nat} {xs : List Nat} (h : w.ownsRow base e 1 v n (flo xs)) (hb : ∀ x ∈ xs, x < 18446744073709551616) (hs : n ≤ 140737488355328) :
    ∃ A' c', v = .slice A' n c' ∧ Fs w A' n xs ∧ n ≤ c' ∧ ∀ ad, A' = some ad → base ≤ ad.block := by
  have hl : xs.length = n := by have := h.1; rwa [flo_len, Nat.mul_one] at this
  rcases h.2 with ⟨rfl, rfl⟩ | ⟨g, cap, cur, rfl, hg, hgg, hnc, hcm, hcs, htake⟩
  · exact ⟨none, 0, rfl, ⟨hl, hs, hb, fun h0 => absurd h0 (by omega)⟩, by omega, fun ad he => by cases he⟩
  · refine ⟨_, _, rfl, ⟨hl, hs, hb, fun _ => ⟨_, rfl, fun j hj => ?_⟩⟩, hnc, fun ad he => by cases he; exact hg⟩
    exact h.cells (g := g) rfl j _ (flo_get xs j (by omega))

theorem own_next {w : World} {base : Nat} {W : World} (hB : Below base W w) (hsz : base ≤ w.heap.size) {v : Value} {e n : Nat} {xs : List Value} (hown : w.ownsRow base e 1 v n xs) {w1 : World} (o : Obj) (hg : (w.alloc o).grownBy w1 v.ownBlock) : Below base W w1 :=
  (hB.alloc hsz o).grown hg (by show base ≤ (w.heap.push o).size; rw [Array.size_push]; omega) fun k hk => (hown.lt k hk).1

theorem flo_one (xs : List Nat) (x : Nat) : flo xs ++ [.float .f64 x] = flo (xs ++ [x]) := by simp [flo]

set_option maxHeartbeats 2000000 in
theorem refShare_c (A : Option Addr) (n c : Nat) (xs : List Nat) (w : World) (h : Fs w A n xs) (hn : n ≤ 17592186044400) :
    Calls Try.prog 22 #[.slice A n c] w fun e w' => ∃ A' c', e = .returned (.slice A' n c') ∧ Fs w' A' n (shareL xs) ∧ (∀ ad, A' = some ad → w.heap.size ≤ ad.block) ∧ Below w.heap.size w w' := by
  have C := Lib.hid (refSum_c A n c xs w h)
  obtain ⟨i0, hi, hz0, hz1, hz2⟩ := info_parts infoF
  have HF := Lib.hid h
  have HL := Lib.hid h.len
  have HS := Lib.hid (show (shareL xs).length = n by rw [shareL_len, h.len])
  have HG := Lib.hid (shareL_get xs)
  have HBt := Lib.hid (shareL_bits xs)
  clear h
  generalize hS : shareL xs = ss at *
  clear hS
  go_enter Try.func22, Try.ntmps22
  go_wp2_with (go_at_call 40; refine C.out.mono ?_; rintro e w' ⟨rfl, ⟨d, rfl⟩⟩)
  go_loopw [4, 5] (fun v i wr => ∃ k : Nat, k ≤ n ∧ i = .int .i64 k ∧ wr.ownsRow w.heap.size 30 1 v k (flo (ss.take k)) ∧ Below w.heap.size w wr) (fun _ i _ => n - (intOf i).toNat)
  case atStart => exact ⟨0, by omega, rfl, World.ownsRow_nil _ _ _ _, Drw.below ⟨_, rfl⟩⟩
  case round =>
    obtain ⟨k, hk, rfl, hown, hB⟩ := hrel
    by_cases hlt : k < n
    · obtain ⟨ad, hA, hcell⟩ := (HF.out.below hB).at_ (by omega)
      have cx := hcell k hlt
      subst hA
      obtain ⟨x, hx⟩ : ∃ x, xs.getD k 0 = x := ⟨_, rfl⟩
      rw [hx] at cx
      have HX := Lib.hid hx
      have HB := Lib.hid hB
      have HO := Lib.hid hown
      have HSZ := Lib.hid (show w.heap.size ≤ wr.heap.size from hB.size)
      clear hB hcell hx hown
      go_wp2_with (first
        | (go_at_call 41; refine (refOne_c _ _).mono ?_; rintro e w' ⟨rfl, rfl⟩)
        | (at_builtin; refine wpList_append_own _ rfl _ _ 22 rfl w.heap.size 30 i0 (.float .f64 0) 1 8 Try.underlying22 hi hz0 hz1 hz2 rfl (by decide) _ k (flo (ss.take k)) rfl (World.ownsRow.alloc (w := wr.drewN (fn .quo x (sumV xs))) HO.out _) ⟨wr.heap.size, 0, none⟩ 1 1 [.float .f64 (onev (fa .quo x (sumV xs) wr))] rfl rfl ?c1 ?c2 ?c3 ?c4 ?c5 ?_)
        | go_in)
      case c1 =>
        intro j u hj
        match j, hj with
        | 0, hj => simp at hj; subst hj; exact (Row.new (wr.drewN (fn .quo x (sumV xs))) _ [_]).cell 0
      case c2 => intro u hu; simp at hu; subst hu; rfl
      case c3 => unfold maxLen; omega
      case c4 => omega
      case c5 => have := HSZ.out; simp; omega
      intro v' w1 hown' hgrow _
      have HO1 := Lib.hid hown'
      have HG1 := Lib.hid hgrow
      clear hown' hgrow
      go_wp2
      go_roundw
      case rel =>
        refine ⟨k + 1, by omega, by go_num, ?_, ?_⟩
        · have := HO1.out
          rw [one_quo, flo_one] at this
          rw [List.take_add_one, show ss[k]? = some (byV x (sumV xs)) by
            have := HG.out k (by rw [HL.out]; exact hlt)
            rw [List.getElem?_eq_getElem (by rw [HS.out]; exact hlt)]
            rw [List.getD_eq_getElem?_getD, List.getElem?_eq_getElem (by rw [HS.out]; exact hlt), HX.out] at this
            exact congrArg some this]
          exact this
        · exact own_next (w := wr.drewN (fn .quo x (sumV xs))) (below_drewN HB.out _) HSZ.out (HO.out : (wr.drewN (fn .quo x (sumV xs))).ownsRow _ _ _ _ _ _) _ HG1.out
      case measure => simp [intOf]; omega
    · have hkn : k = n := by omega
      subst hkn
      rw [List.take_of_length_le (Nat.le_of_eq HS.out)] at hown
      obtain ⟨A', c', rfl, hF, _, hA'⟩ := owned_fs hown HBt.out (by omega)
      have HR := Lib.hid hF
      have HA := Lib.hid hA'
      have HB := Lib.hid hB
      clear hF hA' hB hown
      go_wp2
      go_ret
      exact ⟨A', c', rfl, HR.out, HA.out, HB.out⟩
end Go.Proofs.Ytmkbbfcecolobaa
