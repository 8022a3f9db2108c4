/-
  Rings of string: New, place, Put, Take, Len, Cap.
-/
import Derived.Test.YtkoepaagdaconaaRgP
import Derived.Test.YtkoepaagdaconaaChecked
import Derived.Deep.QuietTactic
import Derived.BigQuiet
import Derived.Deep.RegionHeld3
import Derived.Deep.RegionLaw
import Derived.Deep.DrawnRows
namespace Go.Proofs.Ytkoepaagdaconaa.RS
open Go.RowKit
set_option linter.unusedSimpArgs false

theorem info : (Try.prog.info? 9).map (fun i => (i.zero, i.size, i.bytes)) = some (some (.string ⟨#[]⟩), 1, 16) := by kernel_rfl
theorem run_make_ (m : Nat) (hm : m ≤ 1000) (w : World) : (Instr.makeSlice 59 (.int .i64 m) (.int .i64 m)).run Try.prog w = .ok (.slice (some ⟨w.heap.size, 0, none⟩) m m) (w.alloc (.cells (List.replicate m (.string ⟨#[]⟩)).toArray 9)) := by
  obtain ⟨i0, hi, hz0, hz1, hz2⟩ := info_parts info
  have := run_make (P := Try.prog) w 59 9 i0 (.string ⟨#[]⟩) Try.underlying59 hi hz0 .i64 .i64 m m (by omega) (Int.le_refl _) (by rw [hz2]; omega) (by omega)
  rw [this, hz1, Nat.mul_one]
  show Result.ok _ (w.alloc (.cells (madeCells #[.string ⟨#[]⟩] _) _)) = _
  rw [made_rep]
  simp

def Made (n : Nat) (w : World) (e : Ending) (w' : World) : Prop := ∃ b g, e = .returned (.tuple #[.pointer (some ⟨b, 0, none⟩), .int .i64 0]) ∧ w.heap.size ≤ b ∧ w.heap.size ≤ g ∧ Ring w' 61 9 b g n [] ∧ Below w.heap.size w w'
set_option maxHeartbeats 1000000 in
theorem new_c (n : Nat) (hn : n ≤ 100) (w : World) : Calls Try.prog 8 #[.int .i64 n] w (Made n w) := by
  have hmk := fun w => run_make_ n (by omega) w
  have h0 : ¬ (n : Int) < 0 := by omega
  have h1 : ¬ 100 < (n : Int) := by omega
  have HR : Hid (Row ((w.alloc (.cells (List.replicate n (.string ⟨#[]⟩)).toArray 9)).alloc (.cells #[.slice (some ⟨w.heap.size, 0, none⟩) n n, .int .i64 0, .int .i64 0] 61)) (w.heap.size + 1) 61 [.slice (some ⟨w.heap.size, 0, none⟩) n n, .int .i64 0, .int .i64 0]) := Lib.hid (by
    have := Row.new (w.alloc (.cells (List.replicate n (.string ⟨#[]⟩)).toArray 9)) 61 [.slice (some ⟨w.heap.size, 0, none⟩) n n, .int .i64 0, .int .i64 0]
    have hs : ∀ (o : Obj), (w.alloc o).heap.size = w.heap.size + 1 := fun o => by show (w.heap.push o).size = _; rw [Array.size_push]
    rw [hs] at this
    exact this)
  have HG : Hid (Row ((w.alloc (.cells (List.replicate n (.string ⟨#[]⟩)).toArray 9)).alloc (.cells #[.slice (some ⟨w.heap.size, 0, none⟩) n n, .int .i64 0, .int .i64 0] 61)) w.heap.size 9 (List.replicate n (.string ⟨#[]⟩))) := Lib.hid ((Row.new w _ _).alloc _)
  have HB : Hid (Below w.heap.size w ((w.alloc (.cells (List.replicate n (.string ⟨#[]⟩)).toArray 9)).alloc (.cells #[.slice (some ⟨w.heap.size, 0, none⟩) n n, .int .i64 0, .int .i64 0] 61))) := Lib.hid (((Below.refl _ _).alloc (Nat.le_refl _) _).alloc (by show _ ≤ (w.heap.push _).size; rw [Array.size_push]; omega) _)
  rw [List.toArray_replicate] at HR HG HB hmk
  go_enter Try.func8, Try.ntmps8
  go_wp2
  go_ret2
  exact ⟨w.heap.size + 1, w.heap.size, rfl, by omega, by omega, ⟨0, List.replicate n (.string ⟨#[]⟩), RingAt.new HR.out HG.out (by simp) (by omega)⟩, HB.out⟩
set_option maxHeartbeats 1000000 in
theorem newBad_c (n : Int) (hn : n < 0 ∨ 100 < n) (w : World) : Calls Try.prog 8 #[.int .i64 n] w fun e w' => e = .returned (.tuple #[.pointer none, .int .i64 1]) ∧ w = w' := by
  by_cases h0 : n < 0
  · go_enter Try.func8, Try.ntmps8
    go_wp2
    go_ret2
    exact ⟨rfl, rfl⟩
  · have h1 : 100 < n := by omega
    go_enter Try.func8, Try.ntmps8
    go_wp2
    go_ret2
    exact ⟨rfl, rfl⟩

theorem place_c (b g n f i : Nat) (w : World) (h0 : w.cell? ⟨b, 0, none⟩ = some (.slice (some ⟨g, 0, none⟩) n n)) (h1 : w.cell? ⟨b, 1, none⟩ = some (.int .i64 f)) (hn : 0 < n) (hn2 : n ≤ 100) (hf : f ≤ 100) (hi : i ≤ 100) :
    Calls Try.prog 25 #[.pointer (some ⟨b, 0, none⟩), .int .i64 i] w fun e w' => e = .returned (.int .i64 ((f + i) % n : Nat)) ∧ ∃ d, w' = w.drewN d := by
  have hw : IntKind.i64.wrap ((f : Int) + (i : Int)) = ((f + i : Nat) : Int) := by rw [IntKind.wrap_i64]; omega
  have hm : ((f + i : Nat) : Int).tmod (n : Int) = (((f + i) % n : Nat) : Int) := by rw [Int.tmod_eq_emod_of_nonneg (by omega)]; rfl
  have hx : IntKind.i64.wrap (((f + i) % n : Nat) : Int) = (((f + i) % n : Nat) : Int) := by rw [IntKind.wrap_i64]; have := Nat.mod_lt (f + i) hn; omega
  have n0 : ((n : Int) == 0) = false := beq_eq_false_iff_ne.2 (by omega)
  have n1 : (n : Int) ≠ 0 := by omega
  generalize (f + i) % n = r at *
  generalize f + i = s at *
  go_enter Try.func25, Try.ntmps25
  go_wp2_with fail
  go_quiet (fail)
  go_wp2
  go_ret
  exact ⟨rfl, _, rfl⟩
end Go.Proofs.Ytkoepaagdaconaa.RS
