/-
  slices.Index of nil; slot of a book.
-/
import Derived.Test.YtkdiibgjkipdnaaWqG
namespace Go.Proofs.Ytkdiibgjkipdnaa
open Go.RowKit Go.Maps
set_option linter.unusedSimpArgs false

theorem run_eql_nil_some (a : Addr) (w : World) : (binOp .eql 92 (.pointer none) (.pointer (some a))).run Try.prog w = .ok (.bool false) w := by kernel_rfl
theorem run_eql_nil_nil (w : World) : (binOp .eql 92 (.pointer none) (.pointer none)).run Try.prog w = .ok (.bool true) w := by kernel_rfl
set_option maxHeartbeats 1000000 in
set_option maxRecDepth 100000 in
theorem index_some (A : Option Addr) (n c : Nat) (ps : List (Option Nat)) (w : World) (hl : ps.length = n) (hc : ∀ j p, ps[j]? = some p → ∃ g, A = some ⟨g, 0, none⟩ ∧ w.cell? ⟨g, j, none⟩ = some (pt p)) (hn : n ≤ 100000) (i : Nat) (hi : ps[i]? = some none) (hm : ∀ j, j < i → ∃ b, ps[j]? = some (some b)) :
    Calls Try.prog 32 #[.slice A n c, .pointer none] w fun e w' => e = .returned (.int .i64 (i : Nat)) ∧ w = w' := by
  have HC := Lib.hid hc
  have HL := Lib.hid hl
  have HI := Lib.hid hi
  have HM := Lib.hid hm
  have hin : i < n := by rw [← hl]; exact (List.getElem?_eq_some_iff.1 hi).1
  clear hc hl hi hm
  go_enter Try.func32, Try.ntmps32
  go_wp2_with fail
  go_loop [5, 8] (fun _ x => ∃ j : Nat, j ≤ i ∧ x = .int .i64 j) (fun _ x => n - (intOf x).toNat)
  case atStart => exact ⟨0, by omega, rfl⟩
  case round =>
    obtain ⟨j, hj, rfl⟩ := hrel
    have d0 : decide ((j : Int) < (n : Int)) = true := decide_eq_true (by omega)
    have j0 : (0 : Int) ≤ (j : Int) := by omega
    by_cases hji : j < i
    · obtain ⟨b, hb⟩ := HM.out j hji
      obtain ⟨g, hA, hcell⟩ := HC.out j _ hb
      simp only [pt] at hcell
      have hee := fun w => run_eql_nil_some ⟨b, 0, none⟩ w
      subst hA
      clear hb
      go_wp2
      go_round
      case rel => exact ⟨j + 1, by omega, by go_num⟩
      case measure => simp [intOf] <;> omega
    · have hji : j = i := by omega
      have HJ := Lib.hid hji
      obtain ⟨g, hA, hcell⟩ := HC.out i _ HI.out
      simp only [pt] at hcell
      rw [← hji] at hcell
      have hee := run_eql_nil_nil
      subst hA
      clear hji
      go_wp2
      go_ret
      exact ⟨by rw [← HJ.out]; rfl, rfl⟩
set_option maxHeartbeats 1000000 in
set_option maxRecDepth 100000 in
theorem index_none (A : Option Addr) (n c : Nat) (ps : List (Option Nat)) (w : World) (hl : ps.length = n) (hc : ∀ j p, ps[j]? = some p → ∃ g, A = some ⟨g, 0, none⟩ ∧ w.cell? ⟨g, j, none⟩ = some (pt p)) (hn : n ≤ 100000) (hm : ∀ j, j < n → ∃ b, ps[j]? = some (some b)) :
    Calls Try.prog 32 #[.slice A n c, .pointer none] w fun e w' => e = .returned (.int .i64 (-1)) ∧ w = w' := by
  have HC := Lib.hid hc
  have HL := Lib.hid hl
  have HM := Lib.hid hm
  clear hc hl hm
  go_enter Try.func32, Try.ntmps32
  go_wp2_with fail
  go_loop [5, 8] (fun _ x => ∃ j : Nat, j ≤ n ∧ x = .int .i64 j) (fun _ x => n - (intOf x).toNat)
  case atStart => exact ⟨0, by omega, rfl⟩
  case round =>
    obtain ⟨j, hj, rfl⟩ := hrel
    have j0 : (0 : Int) ≤ (j : Int) := by omega
    by_cases hji : j < n
    · have d0 : decide ((j : Int) < (n : Int)) = true := decide_eq_true (by omega)
      obtain ⟨b, hb⟩ := HM.out j hji
      obtain ⟨g, hA, hcell⟩ := HC.out j _ hb
      simp only [pt] at hcell
      have hee := fun w => run_eql_nil_some ⟨b, 0, none⟩ w
      subst hA
      clear hb
      go_wp2
      go_round
      case rel => exact ⟨j + 1, by omega, by go_num⟩
      case measure => simp [intOf] <;> omega
    · have d0 : decide ((j : Int) < (n : Int)) = false := decide_eq_false (by omega)
      go_wp2
      go_ret
      exact ⟨rfl, rfl⟩
def slotsL (N : List Nd) (n : Nat) : List (Option Nat) := (List.range n).map (slotOf N)
theorem slotsL_cells (N : List Nd) (n : Nat) : slotCells N n = (slotsL N n).map pt := by simp [slotCells, slotsL]
theorem slotsL_get {N : List Nd} {n i : Nat} (h : i < n) : (slotsL N n)[i]? = some (slotOf N i) := by simp [slotsL, h]
theorem BookAt.ptrs {w : World} {bp : Nat} {B : Bk} (h : BookAt w bp B) : ∃ A c, B.sv = .slice A B.gens.length c ∧ ∀ j p, (slotsL B.N B.gens.length)[j]? = some p → ∃ g, A = some ⟨g, 0, none⟩ ∧ w.cell? ⟨g, j, none⟩ = some (pt p) := by
  obtain ⟨A, c, e, hc⟩ := own_form h.mem.slots
  refine ⟨A, c, e, fun j p hj => ?_⟩
  obtain ⟨g, e2, h1, _⟩ := hc j (pt p) (by rw [slotsL_cells, List.getElem?_map, hj]; rfl)
  exact ⟨g, e2, h1⟩
set_option maxHeartbeats 1000000 in
set_option maxRecDepth 100000 in
theorem slotOld_c (bp : Nat) (B : Bk) (w : World) (h : BookAt w bp B) (i : Nat) (hi : i < B.gens.length) (hf : slotOf B.N i = none) (hm : ∀ j, j < i → ∃ b, slotOf B.N j = some b) :
    Calls Try.prog 28 #[.pointer (some ⟨bp, 0, none⟩)] w fun e w' => e = .returned (.int .i64 (i : Nat)) ∧ w = w' := by
  obtain ⟨_, c1, _, _, _⟩ := h.fields
  obtain ⟨A, c, hsv, hc⟩ := h.ptrs
  have hfew := h.ok.few
  have CI := Lib.hid (index_some A B.gens.length c (slotsL B.N B.gens.length) w (by simp [slotsL]) hc hfew i (by rw [slotsL_get hi, hf]) (fun j hj => by
    obtain ⟨b, hb⟩ := hm j hj
    exact ⟨b, by rw [slotsL_get (by omega), hb]⟩))
  rw [hsv] at c1
  have d0 : decide ((i : Int) < 0) = false := decide_eq_false (by omega)
  generalize B.gens.length = n at *
  clear h hsv hc hf hm
  go_enter Try.func28, Try.ntmps28
  go_wp2_with fail
  refine CI.out.mono ?_
  rintro e w1 ⟨rfl, rfl⟩
  go_wp2
  go_ret
  exact ⟨rfl, rfl⟩
end Go.Proofs.Ytkdiibgjkipdnaa
