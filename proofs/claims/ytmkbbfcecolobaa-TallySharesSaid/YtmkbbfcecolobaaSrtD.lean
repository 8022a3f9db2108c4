/-
  A slice of whole numbers in memory that a sort moves about: swapRange, rotate.
-/
import Derived.Test.YtmkbbfcecolobaaSrtC
import Derived.Test.YtmkbbfcecolobaaMem
import Derived.LoopTactic
import Derived.Deep.QuietTactic
import Derived.BigQuiet
import Derived.BigRegion
import Derived.IntWalk
import Derived.Outline
namespace Go.Proofs.Ytmkbbfcecolobaa
open Go.RowKit Srt
set_option linter.unusedSimpArgs false

/-- a list of places in block g -/
structure Arr (w : World) (g N : Nat) (f : Nat → Nat) : Prop where
  cell : ∀ k, k < N → w.cell? ⟨g, k, none⟩ = some (.int .i64 (f k : Nat))
  fro : ∀ k, k < N → w.frozen? ⟨g, k, none⟩ = false
  lt : g < w.heap.size
  small : N ≤ 1152921504606846976
  row : ∃ vs, Row w g 3 vs ∧ vs.length = N
abbrev Chg (g : Nat) (w w' : World) : Prop := w.grownBy w' (some g)
theorem Chg.refl (g : Nat) (w : World) : Chg g w w := ⟨rfl, rfl, rfl, Nat.le_refl _, fun _ _ _ => rfl⟩
theorem Chg.trans {g : Nat} {a b c : World} (h : Chg g a b) (k : Chg g b c) : Chg g a c :=
  ⟨k.os.trans h.os, k.tape.trans h.tape, k.output.trans h.output, Nat.le_trans h.size k.size, fun i hi hn => (k.block i (Nat.lt_of_lt_of_le hi h.size) hn).trans (h.block i hi hn)⟩
theorem Chg.set (g o : Nat) (w : World) (v : Value) : Chg g w (w.setCell ⟨g, o, none⟩ v) :=
  ⟨rfl, rfl, rfl, by simp [World.setCell], fun k hk hn => Below.heap_setCell w _ v k (fun e => hn (by rw [e]))⟩
theorem Chg.drewN (g n : Nat) (w : World) : Chg g w (w.drewN n) := ⟨rfl, rfl, rfl, Nat.le_refl _, fun _ _ _ => rfl⟩
theorem Chg.drew (g : Nat) (w : World) : Chg g w w.drew := ⟨rfl, rfl, rfl, Nat.le_refl _, fun _ _ _ => rfl⟩
theorem Arr.drew {w : World} {g N : Nat} {f : Nat → Nat} (h : Arr w g N f) : Arr w.drew g N f := ⟨h.cell, h.fro, h.lt, h.small, h.row⟩
theorem Arr.drewN {w : World} {g N : Nat} {f : Nat → Nat} (h : Arr w g N f) (n : Nat) : Arr (w.drewN n) g N f := ⟨h.cell, h.fro, h.lt, h.small, h.row⟩
theorem Arr.set {w : World} {g N : Nat} {f : Nat → Nat} (h : Arr w g N f) {i : Nat} (hi : i < N) (v : Nat) : Arr (w.setCell ⟨g, i, none⟩ (.int .i64 v)) g N (fun k => if k = i then v else f k) := by
  have hg := h.cell i hi
  refine ⟨fun k hk => ?_, fun k hk => ?_, by simp only [World.setCell, Array.size_modify]; exact h.lt, h.small, by obtain ⟨vs, h1, h2⟩ := h.row; exact ⟨_, h1.set i _, by rw [List.length_set]; exact h2⟩⟩
  · by_cases e : k = i
    · subst e
      rw [if_pos rfl]
      exact World.cell?_setCell_same w _ _ (h.cell k hk)
    · rw [if_neg e, World.cell?_setCell_other w _ _ _ (fun e' => e (by cases e'; rfl))]
      exact h.cell k hk
  · rw [World.frozen?_setCell]; exact h.fro k hk
theorem Arr.swap {w : World} {g N : Nat} {f : Nat → Nat} (h : Arr w g N f) {i j : Nat} (hi : i < N) (hj : j < N) (hij : i ≠ j) : Arr ((w.setCell ⟨g, i, none⟩ (.int .i64 (f j : Nat))).setCell ⟨g, j, none⟩ (.int .i64 (f i : Nat))) g N (sw f i j) := by
  have := (h.set hi (f j)).set hj (f i)
  refine ⟨fun k hk => ?_, this.fro, this.lt, this.small, this.row⟩
  rw [this.cell k hk]
  congr 2
  show ((if k = j then f i else if k = i then f j else f k : Nat) : Int) = ((if k = i then f j else if k = j then f i else f k : Nat) : Int)
  by_cases e1 : k = j
  · rw [if_pos e1, if_neg (fun e => hij (e.symm.trans e1)), if_pos e1]
  · rw [if_neg e1, if_neg e1]
/-- the block, whole -/
def inl (N : Nat) (f : Nat → Nat) : List Value := (List.range N).map fun k => .int .i64 (f k : Nat)
theorem inl_len (N : Nat) (f : Nat → Nat) : (inl N f).length = N := by simp [inl]
theorem inl_get (N : Nat) (f : Nat → Nat) (j : Nat) (h : j < N) : (inl N f)[j]? = some (.int .i64 (f j : Nat)) := by simp [inl, h]
theorem Arr.whole {w : World} {g N : Nat} {f : Nat → Nat} (h : Arr w g N f) : Row w g 3 (inl N f) := by
  obtain ⟨vs, h1, h2⟩ := h.row
  have e : vs = inl N f := by
    apply List.ext_getElem?
    intro j
    by_cases hj : j < N
    · rw [inl_get N f j hj, ← h1.cell, h.cell j hj]
    · rw [List.getElem?_eq_none (by omega), List.getElem?_eq_none (by rw [inl_len]; omega)]
  rw [← e]; exact h1
theorem Arr.of_row {w : World} {g N : Nat} {f : Nat → Nat} (h : Row w g 3 (inl N f)) (hN : N ≤ 1152921504606846976) : Arr w g N f :=
  ⟨fun k hk => by rw [h.cell, inl_get N f k hk], fun k _ => h.frozen k, h.lt, hN, _, h, inl_len N f⟩
theorem Arr.congr {w : World} {g N : Nat} {f f' : Nat → Nat} (h : Arr w g N f) (e : f = f') : Arr w g N f' := e ▸ h
set_option maxHeartbeats 1000000 in
theorem swapR_c (cmp : Value) (g N c a b n : Nat) (f : Nat → Nat) (w : World) (h : Arr w g N f) (hab : a + n ≤ b) (hbn : b + n ≤ N) :
    Calls Try.prog 66 #[.slice (some ⟨g, 0, none⟩) N c, .int .i64 a, .int .i64 b, .int .i64 n, cmp] w fun e w' => e = .returned (.tuple #[]) ∧ Arr w' g N (swR f a b n) ∧ Chg g w w' := by
  have hN := h.small
  have H0 := Lib.hid h
  clear h
  go_enter Try.func66, Try.ntmps66
  go_wp2
  go_loopw [10] (fun i wr => ∃ k : Nat, k ≤ n ∧ i = .int .i64 k ∧ Arr wr g N (swR f a b k) ∧ Chg g w wr) (fun i _ => n - (intOf i).toNat)
  case atStart => exact ⟨0, by omega, rfl, H0.out.congr (swR_zero f a b).symm, Chg.refl _ _⟩
  case round =>
    obtain ⟨k, hk, rfl, hA, hC⟩ := hrel
    by_cases hlt : k < n
    · have cx := hA.cell (a + k) (by omega)
      have cy := hA.cell (b + k) (by omega)
      have fx := hA.fro (a + k) (by omega)
      have fy := hA.fro (b + k) (by omega)
      have hs := hA.swap (i := a + k) (j := b + k) (by omega) (by omega) (by omega)
      rw [swR_succ f a b k (by omega)] at hs
      obtain ⟨u, hu⟩ : ∃ u, swR f a b k (a + k) = u := ⟨_, rfl⟩
      obtain ⟨v, hv⟩ : ∃ v, swR f a b k (b + k) = v := ⟨_, rfl⟩
      rw [hu] at cx hs
      rw [hv] at cy hs
      have HS := Lib.hid hs
      have HC := Lib.hid hC
      clear hu hv hs hA hC
      have w1 : IntKind.i64.wrap ((a : Int) + (k : Int)) = (a : Int) + (k : Int) := by rw [IntKind.wrap_i64]; omega
      have w2 : IntKind.i64.wrap ((b : Int) + (k : Int)) = (b : Int) + (k : Int) := by rw [IntKind.wrap_i64]; omega
      have n1 : ((a : Int) + (k : Int)).toNat = a + k := by omega
      have n2 : ((b : Int) + (k : Int)).toNat = b + k := by omega
      have l1 : (0 : Int) ≤ (a : Int) + (k : Int) := by omega
      have l2 : (0 : Int) ≤ (b : Int) + (k : Int) := by omega
      have l3 : (a : Int) + (k : Int) < (N : Int) := by omega
      have l4 : (b : Int) + (k : Int) < (N : Int) := by omega
      have ne : a + k ≠ b + k := by omega
      have ne' : b + k ≠ a + k := by omega
      go_wp2
      go_region
      go_wp2
      go_roundw
      case rel => exact ⟨k + 1, by omega, by go_num, HS.out.drew, ((HC.out.trans (Chg.set g (a + k) wr _)).trans (Chg.set g (b + k) _ _)).trans (Chg.drew g _)⟩
      case measure => simp [intOf]; omega
    · have hkn : k = n := by omega
      subst hkn
      have HA := Lib.hid hA
      have HC := Lib.hid hC
      clear hA hC
      go_wp2
      go_end0
      exact ⟨rfl, HA.out, HC.out⟩
set_option maxHeartbeats 1000000 in
theorem rot_c (cmp : Value) (g N c a m b : Nat) (f : Nat → Nat) (w : World) (h : Arr w g N f) (ham : a < m) (hmb : m < b) (hbN : b ≤ N) :
    Calls Try.prog 65 #[.slice (some ⟨g, 0, none⟩) N c, .int .i64 a, .int .i64 m, .int .i64 b, cmp] w fun e w' => e = .returned (.tuple #[]) ∧ Arr w' g N (rot f a m b) ∧ Chg g w w' := by
  have hN := h.small
  have H0 := Lib.hid h
  clear h
  go_enter Try.func65, Try.ntmps65
  go_wp2
  go_loopw [10, 11] (fun x y wr => ∃ (i j : Nat) (f' : Nat → Nat), 0 < i ∧ 0 < j ∧ i ≤ m ∧ m + j ≤ N ∧ x = .int .i64 i ∧ y = .int .i64 j ∧ rot f' (m - i) m (m + j) = rot f a m b ∧ Arr wr g N f' ∧ Chg g w wr) (fun x y _ => (intOf x).toNat + (intOf y).toNat)
  case atStart => exact ⟨m - a, b - m, f, by omega, by omega, by omega, by omega, by go_num, by go_num, by rw [show m - (m - a) = a by omega, show m + (b - m) = b by omega], H0.out, Chg.refl _ _⟩
  case round =>
    obtain ⟨i, j, f', hi0, hj0, him, hjN, rfl, rfl, hrot, hA, hC⟩ := hrel
    have HC := Lib.hid hC
    have HR := Lib.hid hrot
    have HA := Lib.hid hA
    clear hC hrot hA
    rcases Nat.lt_trichotomy i j with hij | hij | hij
    · have C := Lib.hid (fun w' hA => swapR_c cmp g N c (m - i) (m + j - i) i f' w' hA (by omega) (by omega))
      have e1 : ((m - i : Nat) : Int) = (m : Int) - (i : Int) := by omega
      have e2 : ((m + j - i : Nat) : Int) = (m : Int) + (j : Int) - (i : Int) := by omega
      have b1 : ((i : Int) != (j : Int)) = true := by rw [bne_iff_ne]; omega
      have b2 : decide ((j : Int) < (i : Int)) = false := decide_eq_false (by omega)
      have E1 := Lib.hid e1
      have E2 := Lib.hid e2
      clear e1 e2
      go_wp2_with fail
      rw [← E1.out, ← E2.out]
      refine (C.out _ HA.out).mono ?_
      rintro e w1 ⟨rfl, hA1, hC1⟩
      have HA1 := Lib.hid hA1
      have HC1 := Lib.hid hC1
      clear hA1 hC1
      go_wp2
      go_roundw
      case rel => exact ⟨i, j - i, _, hi0, by omega, him, by omega, rfl, by go_num, by rw [← HR.out]; exact rot_right f' m i j him hij, HA1.out, HC.out.trans HC1.out⟩
      case measure => simp [intOf]; omega
    · subst hij
      have C := Lib.hid (fun w' hA => swapR_c cmp g N c (m - i) m i f' w' hA (by omega) (by omega))
      have e1 : ((m - i : Nat) : Int) = (m : Int) - (i : Int) := by omega
      have E1 := Lib.hid e1
      clear e1
      go_wp2_with fail
      rw [← E1.out]
      refine (C.out _ HA.out).mono ?_
      rintro e w1 ⟨rfl, hA1, hC1⟩
      have HA1 := Lib.hid hA1
      have HC1 := Lib.hid hC1
      clear hA1 hC1
      go_wp2
      go_end0
      exact ⟨rfl, HA1.out.congr (by rw [← HR.out]; exact rot_last f' m i him), HC.out.trans HC1.out⟩
    · have C := Lib.hid (fun w' hA => swapR_c cmp g N c (m - i) m j f' w' hA (by omega) (by omega))
      have e1 : ((m - i : Nat) : Int) = (m : Int) - (i : Int) := by omega
      have b1 : ((i : Int) != (j : Int)) = true := by rw [bne_iff_ne]; omega
      have b2 : decide ((j : Int) < (i : Int)) = true := decide_eq_true (by omega)
      have E1 := Lib.hid e1
      clear e1
      go_wp2_with fail
      rw [← E1.out]
      refine (C.out _ HA.out).mono ?_
      rintro e w1 ⟨rfl, hA1, hC1⟩
      have HA1 := Lib.hid hA1
      have HC1 := Lib.hid hC1
      clear hA1 hC1
      go_wp2
      go_roundw
      case rel => exact ⟨i - j, j, _, by omega, hj0, by omega, by omega, by go_num, rfl, by rw [← HR.out]; exact rot_left f' m i j him hij, HA1.out, HC.out.trans HC1.out⟩
      case measure => simp [intOf]; omega
end Go.Proofs.Ytmkbbfcecolobaa
