/-
  The document's Of; Same of two that are alike.
-/
import Derived.Test.YtfiimmbpfdpjfaaSumC
namespace Go.Proofs.Ytfiimmbpfdpjfaa
open Go.RowKit
set_option linter.unusedSimpArgs false

set_option maxHeartbeats 2000000 in
set_option maxRecDepth 100000 in
theorem refOf_c (A : Option Addr) (n c : Nat) (ss : List St) (w : World) (h : Ss w A n ss) (hn : n ≤ 1000) :
    Calls Try.prog 10 #[.slice A n c] w fun e w' => e = .returned (ofS ss).agg ∧ Below w.heap.size w w' := by
  have HS := Lib.hid h
  have CS := Lib.hid (fun w h => refAll_c A n c ss ByteArray.empty 0 w h hn)
  obtain ⟨S, hS⟩ : ∃ S, ofS ss = S := ⟨_, rfl⟩
  have hS' : sumS ss ByteArray.empty (byV (sumV (valuesV ss 1)) (sumV (valuesV ss 1))) = S := hS
  rw [hS'] at CS
  rw [hS]
  clear h hS hS'
  obtain ⟨v0, v1, v2, v3, v4, v5, v6⟩ := S
  simp only [Sm.agg, Sm.cells] at CS ⊢
  go_enter Try.func10, Try.ntmps10
  go_wp2_with fail
  have hR0 := Row.new w 28 zeroSum
  have hB0 : Below w.heap.size w (w.alloc (Obj.cells zeroSum.toArray 28)) := (Below.refl _ _).alloc (Nat.le_refl _) _
  change Row (w.alloc (Obj.cells #[.string { data := #[] }, .int .i64 0, .int .i64 0, .float .f64 0, .float .f64 0, .float .f64 0, .float .f64 0] 28)) _ _ _ at hR0
  change Below _ _ (w.alloc (Obj.cells #[.string { data := #[] }, .int .i64 0, .int .i64 0, .float .f64 0, .float .f64 0, .float .f64 0, .float .f64 0] 28)) at hB0
  generalize w.alloc (Obj.cells #[.string { data := #[] }, .int .i64 0, .int .i64 0, .float .f64 0, .float .f64 0, .float .f64 0, .float .f64 0] 28) = w0 at *
  obtain ⟨s0, hs0⟩ : ∃ s0, w.heap.size = s0 := ⟨_, rfl⟩
  rw [hs0] at hR0 ⊢
  have HE0 := Lib.hid hs0
  refine (CS.out w0 (HS.out.below hB0)).mono ?_
  rintro e w1 ⟨rfl, hb1⟩
  have HR1 := Lib.hid (hR0.grown hb1)
  have HB1 : Hid (Below s0 w w1) := Lib.hid (by rw [← hs0]; exact hB0.trans (hb1.mono hB0.size))
  obtain ⟨⟨z0, z1, z2, z3, z4, z5, z6⟩, g0, g1, g2, g3, g4, g5, g6⟩ := HR1.out.at7
  clear hb1 hB0 hs0 hR0 CS
  go_wp2_with fail
  have HW := HR1.out.store7 (.string v0) (.int .i64 v1) (.int .i64 v2) (.float .f64 v3) (.float .f64 v4) (.float .f64 v5) (.float .f64 v6)
  have HBW := below_store7 HB1.out (Nat.le_refl s0) (.string v0) (.int .i64 v1) (.int .i64 v2) (.float .f64 v3) (.float .f64 v4) (.float .f64 v5) (.float .f64 v6)
  generalize World.setCell _ ⟨s0, 6, none⟩ (Value.float .f64 v6) = W at *
  obtain ⟨⟨y0, y1, y2, y3, y4, y5, y6⟩, _⟩ := HW.at7
  try simp only [Exit.inBlock, Exit.then]
  refine bodyPost_ret (v := .agg #[.string v0, .int .i64 v1, .int .i64 v2, .float .f64 v3, .float .f64 v4, .float .f64 v5, .float .f64 v6]) (by simp [results, Try.results10, go_sem, y0, y1, y2, y3, y4, y5, y6]) rfl ?_
  exact ⟨rfl, by rw [HE0.out]; exact HBW⟩
set_option maxHeartbeats 2000000 in
set_option maxRecDepth 100000 in
theorem sameSum_c (S : Sm) (w : World) : Calls Try.prog 8 #[S.agg, S.agg] w fun e w' => e = .returned (.bool true) ∧ Below w.heap.size w w' := by
  obtain ⟨v0, v1, v2, v3, v4, v5, v6⟩ := S
  simp only [Sm.agg, Sm.cells]
  have C3 := Lib.hid (bits_c v3 v3)
  have C4 := Lib.hid (bits_c v4 v4)
  have C5 := Lib.hid (bits_c v5 v5)
  have C6 := Lib.hid (bits_c v6 v6)
  rw [decide_eq_true rfl] at C3 C4 C5 C6
  have q0 : (v0.toList == v0.toList) = true := by rw [toList_beq]; exact decide_eq_true rfl
  have q1 : (v1 == v1) = true := by simp
  have q2 : (v2 == v2) = true := by simp
  go_enter Try.func8, Try.ntmps8
  go_wp2_with fail
  refine (C3.out _).mono ?_
  rintro e w1 ⟨rfl, rfl⟩
  go_wp2_with fail
  refine (C4.out _).mono ?_
  rintro e w1 ⟨rfl, rfl⟩
  go_wp2_with fail
  refine (C5.out _).mono ?_
  rintro e w1 ⟨rfl, rfl⟩
  go_wp2_with fail
  refine (C6.out _).mono ?_
  rintro e w1 ⟨rfl, rfl⟩
  go_wp2_with fail
  go_ret
  exact ⟨rfl, ((Below.refl _ w).alloc (Nat.le_refl _) _).alloc (by simp) _⟩
end Go.Proofs.Ytfiimmbpfdpjfaa
