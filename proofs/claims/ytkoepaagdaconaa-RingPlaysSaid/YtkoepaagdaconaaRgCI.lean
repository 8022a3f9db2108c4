/-
  Rings of int: At, Cap.
-/
import Derived.Test.YtkoepaagdaconaaRgBI
namespace Go.Proofs.Ytkoepaagdaconaa.RI
open Go.RowKit
set_option linter.unusedSimpArgs false

theorem capNil_c (w : World) : Calls Try.prog 23 #[.pointer none] w fun e w' => e = .returned (.int .i64 0) ∧ w = w' := by
  go_enter Try.func23, Try.ntmps23
  go_wp2
  go_ret
  exact ⟨rfl, rfl⟩
theorem cap_c (b g n : Nat) (q : List Value) (w : World) (h : Ring w 64 3 b g n q) : Calls Try.prog 23 #[.pointer (some ⟨b, 0, none⟩)] w fun e w' => e = .returned (.int .i64 n) ∧ w = w' := by
  obtain ⟨f, vs, h⟩ := h
  have c0 : w.cell? ⟨b, 0, none⟩ = some (.slice (some ⟨g, 0, none⟩) n n) := by rw [h.obj.cell]; rfl
  clear h
  go_enter Try.func23, Try.ntmps23
  go_wp2
  go_ret
  exact ⟨rfl, rfl⟩
theorem atNil_c (i : Int) (w : World) : Calls Try.prog 18 #[.pointer none, .int .i64 i] w fun e w' => e = .returned (.tuple #[.int .i64 0, .int .i64 1]) ∧ w = w' := by
  go_enter Try.func18, Try.ntmps18
  go_wp2
  go_ret2
  exact ⟨rfl, rfl⟩
set_option maxHeartbeats 2000000 in
theorem atBad_c (b g n : Nat) (q : List Value) (i : Int) (w : World) (h : Ring w 64 3 b g n q) (hi : i < 0 ∨ (q.length : Int) ≤ i) :
    Calls Try.prog 18 #[.pointer (some ⟨b, 0, none⟩), .int .i64 i] w fun e w' => e = .returned (.tuple #[.int .i64 0, .int .i64 1]) ∧ w = w' := by
  obtain ⟨f, vs, h⟩ := h
  have c2 : w.cell? ⟨b, 2, none⟩ = some (.int .i64 (q.length : Nat)) := by rw [h.obj.cell]; rfl
  clear h
  generalize q.length = m at *
  by_cases h0 : i < 0
  · go_enter Try.func18, Try.ntmps18
    go_wp2
    go_ret2
    exact ⟨rfl, rfl⟩
  · have h1 : (m : Int) ≤ i := by omega
    have h2 : i ≥ (m : Int) := h1
    clear hi
    go_enter Try.func18, Try.ntmps18
    go_wp2
    go_ret2
    exact ⟨rfl, rfl⟩
set_option maxHeartbeats 2000000 in
theorem at_c (b g n i : Nat) (q : List Value) (x : Int) (w : World) (h : Ring w 64 3 b g n q) (hn : n ≤ 100) (hi : q[i]? = some (.int .i64 x)) :
    Calls Try.prog 18 #[.pointer (some ⟨b, 0, none⟩), .int .i64 i] w fun e w' => e = .returned (.tuple #[(.int .i64 x), .int .i64 0]) ∧ ∃ d, w' = w.drewN d := by
  obtain ⟨f, vs, h⟩ := h
  have hil := (List.getElem?_eq_some_iff.1 hi).1
  have hf := h.first
  have hfew := h.few
  have c0 : w.cell? ⟨b, 0, none⟩ = some (.slice (some ⟨g, 0, none⟩) n n) := by rw [h.obj.cell]; rfl
  have c1 : w.cell? ⟨b, 1, none⟩ = some (.int .i64 f) := by rw [h.obj.cell]; rfl
  have c2 : w.cell? ⟨b, 2, none⟩ = some (.int .i64 (q.length : Nat)) := by rw [h.obj.cell]; rfl
  have cg := (h.get hil).trans hi
  have hpn : (f + i) % n < n := Nat.mod_lt _ (by omega)
  have CP := Lib.hid (fun d => place_c b g n f i (w.drewN d) (show w.cell? _ = _ from c0) (show w.cell? _ = _ from c1) (by omega) hn (by omega) (by omega))
  generalize (f + i) % n = p at *
  have p0 : (0 : Int) ≤ (p : Int) := by omega
  have p1 : (p : Int) < (n : Int) := by omega
  clear h hi
  generalize q.length = m at *
  have i0 : ¬ (i : Int) < 0 := by omega
  have i1 : ¬ (i : Int) ≥ (m : Int) := by omega
  go_enter Try.func18, Try.ntmps18
  go_wp2_with fail
  go_quiet ((go_at_call 26; refine (CP.out _).mono ?_; rintro e w1 ⟨rfl, d, rfl⟩; exact ⟨rfl, _, by rw [World.drewN_drewN]⟩))
  go_wp2
  go_ret2
  exact ⟨rfl, _, rfl⟩
end Go.Proofs.Ytkoepaagdaconaa.RI
