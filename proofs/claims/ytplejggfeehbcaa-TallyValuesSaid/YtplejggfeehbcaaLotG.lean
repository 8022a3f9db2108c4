/-
  The rows of the document's examples for lots.
-/
import Derived.Test.YtplejggfeehbcaaLotF
namespace Go.Proofs.Ytplejggfeehbcaa
open Go.RowKit
set_option linter.unusedSimpArgs false

def exL : List Lot := [(5, []), (0, [4607182418800017408, 4611686018427387904])]
theorem ex1 : pickV 7 3 = 1 := by decide
theorem ex2 : heavyV [4607182418800017408, 4613937818241073152, 4613937818241073152] 3 = 1 := by decide
theorem ex3 : nextV exL 0 1 = 0 ∧ nextU exL 0 1 = 0 := by decide
theorem ex4 : nextV exL 0 3 = 2 ∧ nextU exL 0 3 = 1 := by decide
theorem ex5 : nextV exL 1 2 = 1 ∧ nextU exL 1 2 = 2 := by decide
theorem ex6 : nextV exL 2 7 = 0 ∧ nextU exL 2 7 = 2 := by decide

def exR (z : Nat) : List Raw := [⟨5, none, 0, 0⟩, ⟨0, some ⟨z, 0, none⟩, 2, 2⟩]
theorem ex_new (w : World) : Calls Try.prog 63 #[.slice (some ⟨w.heap.size + 1, 0, none⟩) 2 2]
    ((w.alloc (.cells #[.float .f64 4607182418800017408, .float .f64 4611686018427387904] 24)).alloc (.cells #[.int .i64 5, .slice none 0 0, .int .i64 0, .slice (some ⟨w.heap.size, 0, none⟩) 2 2] 52))
    fun e w' => ∃ b, e = .returned (.pointer (some ⟨b, 0, none⟩)) ∧ w.heap.size ≤ b ∧ Sched w' b exL 0 ∧ Below w.heap.size w w' := by
  have hs1 : ∀ o : Obj, (w.alloc o).heap.size = w.heap.size + 1 := fun o => by show (w.heap.push o).size = _; rw [Array.size_push]
  have hr1 := (Row.new w 24 (flo [4607182418800017408, 4611686018427387904])).alloc (.cells #[.int .i64 5, .slice none 0 0, .int .i64 0, .slice (some ⟨w.heap.size, 0, none⟩) 2 2] 52)
  have hr2 := Row.new (w.alloc (.cells #[.float .f64 4607182418800017408, .float .f64 4611686018427387904] 24)) 52 (rawCells (exR w.heap.size))
  rw [hs1] at hr2
  have hF := Fs.of_row (xs := [4607182418800017408, 4611686018427387904]) (rest := []) (by rw [List.append_nil]; exact hr1) (by decide) (by decide)
  have hB : Below w.heap.size w ((w.alloc (.cells #[.float .f64 4607182418800017408, .float .f64 4611686018427387904] 24)).alloc (.cells #[.int .i64 5, .slice none 0 0, .int .i64 0, .slice (some ⟨w.heap.size, 0, none⟩) 2 2] 52)) :=
    ((Below.refl _ _).alloc (Nat.le_refl _) _).alloc (by rw [hs1]; omega) _
  refine (new_c _ 2 2 (exR w.heap.size) exL _ ?_ ⟨rfl, ?_, ?_⟩ rfl (fun h => by cases h) (by omega)).mono ?_
  · intro _
    refine ⟨_, rfl, fun j hj => ?_⟩
    rw [add_zero]
    exact hr2.cell j
  · intro i r l h1 h2
    match i, h1, h2 with
    | 0, h1, h2 => cases h1; cases h2; exact ⟨rfl, by decide, by decide⟩
    | 1, h1, h2 => cases h1; cases h2; exact ⟨rfl, by decide, by decide⟩
    | i + 2, h1, h2 => simp [exR] at h1
  · intro i r l h1 h2
    match i, h1, h2 with
    | 0, h1, h2 => cases h1; cases h2; exact ⟨⟨rfl, Nat.zero_le _, (by intro x hx; cases hx), fun h0 => absurd h0 (Nat.lt_irrefl 0)⟩, Nat.le_refl 0, fun _ => ⟨rfl, rfl⟩, Nat.zero_le _, fun _ _ => trivial⟩
    | 1, h1, h2 => cases h1; cases h2; exact ⟨hF, Nat.le_refl 2, (fun h => nomatch h), (show 2 ≤ 17592186044300 by omega), fun _ _ => trivial⟩
    | i + 2, h1, h2 => simp [exR] at h1
  · rintro e w' ⟨b, he, hb, hS, hB2⟩
    have := hB.size
    exact ⟨b, he, by omega, hS, hB.trans (hB2.mono hB.size)⟩

set_option maxHeartbeats 4000000 in
set_option maxRecDepth 100000 in
theorem awake17_c (w : World) : Calls Try.prog 54 #[] w fun e w' => e = .returned (.bool true) ∧ Below w.heap.size w w' := by
  have C1 := Lib.hid (pick_c 7 3 w (by omega) (by omega))
  rw [ex1] at C1
  have hr1 := Row.new w 24 (flo [4607182418800017408, 4613937818241073152, 4613937818241073152])
  have C2 := Lib.hid (heavy_c (some ⟨w.heap.size, 0, none⟩) 3 3 _ 3 _ (Fs.of_row (xs := [4607182418800017408, 4613937818241073152, 4613937818241073152]) (rest := []) (by rw [List.append_nil]; exact hr1) (by decide) (by decide)) (by omega) (fun h => by cases h) (by omega) (by omega))
  rw [ex2] at C2
  clear hr1
  go_enter Try.func54, Try.ntmps54
  go_wp2_with (first
    | (go_at_call 55; refine C1.out.mono ?_; rintro e w1 ⟨rfl, rfl⟩)
    | (go_at_call 59; refine C2.out.mono ?_; rintro e w1 ⟨rfl, hb1⟩; have HB1 : Hid (Below w.heap.size w w1) := Lib.hid (((Below.refl _ _).alloc (Nat.le_refl _) _).trans (hb1.mono (by show _ ≤ (w.heap.push _).size; rw [Array.size_push]; omega))); clear hb1))
  refine (ex_new w1).mono ?_
  rintro e w2 ⟨b, rfl, hb, hS, hB2⟩
  have hbw : w.heap.size ≤ b := Nat.le_trans HB1.out.size hb
  have HB2 : Hid (Below w.heap.size w w2) := Lib.hid (HB1.out.trans (hB2.mono HB1.out.size))
  have HS := Lib.hid hS
  clear hS hB2 hb
  go_wp2_with fail
  refine (next_c b exL 0 1 w2 HS.out (by omega)).mono ?_
  rintro e w3 ⟨rfl, hS, hg⟩
  rw [ex3.1]
  rw [ex3.2] at hS
  have HS3 := Lib.hid hS
  have HB3 : Hid (Below w.heap.size w w3) := Lib.hid (HB2.out.grown hg HB2.out.size (fun k hk => by cases hk; exact hbw))
  clear hS hg
  go_wp2_with fail
  refine (next_c b exL 0 3 w3 HS3.out (by omega)).mono ?_
  rintro e w4 ⟨rfl, hS, hg⟩
  rw [ex4.1]
  rw [ex4.2] at hS
  have HS4 := Lib.hid hS
  have HB4 : Hid (Below w.heap.size w w4) := Lib.hid (HB3.out.grown hg HB3.out.size (fun k hk => by cases hk; exact hbw))
  clear hS hg
  go_wp2_with fail
  refine (next_c b exL 1 2 w4 HS4.out (by omega)).mono ?_
  rintro e w5 ⟨rfl, hS, hg⟩
  rw [ex5.1]
  rw [ex5.2] at hS
  have HS5 := Lib.hid hS
  have HB5 : Hid (Below w.heap.size w w5) := Lib.hid (HB4.out.grown hg HB4.out.size (fun k hk => by cases hk; exact hbw))
  clear hS hg
  go_wp2_with fail
  refine (next_c b exL 2 7 w5 HS5.out (by omega)).mono ?_
  rintro e w6 ⟨rfl, hS, hg⟩
  rw [ex6.1]
  rw [ex6.2] at hS
  have HS6 := Lib.hid hS
  have HB6 : Hid (Below w.heap.size w w6) := Lib.hid (HB5.out.grown hg HB5.out.size (fun k hk => by cases hk; exact hbw))
  clear hS hg
  have CU := Lib.hid (used_c b exL 2 w6 HS6.out)
  have CL := Lib.hid (left_c b exL 2 w6 HS6.out)
  rw [show ((exL.length : Nat) : Int) - ((2 : Nat) : Int) = 0 by decide] at CL
  go_wp2_with (first
    | (go_at_call 66; refine CU.out.mono ?_; rintro e w7 ⟨rfl, rfl⟩)
    | (go_at_call 67; refine CL.out.mono ?_; rintro e w7 ⟨rfl, ⟨d, rfl⟩⟩))
  go_ret
  exact ⟨rfl, below_drewN HB6.out _⟩
end Go.Proofs.Ytplejggfeehbcaa
