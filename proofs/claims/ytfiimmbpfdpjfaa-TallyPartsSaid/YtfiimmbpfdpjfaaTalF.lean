/-
  The rows of the document's examples for tallies.
-/
import Derived.Test.YtfiimmbpfdpjfaaTalD
namespace Go.Proofs.Ytfiimmbpfdpjfaa
open Go.RowKit
set_option linter.unusedSimpArgs false

def exS : St := ⟨0, ⟨#[102]⟩, 3, 2, 0, 5, false⟩
def exZ : St := ⟨0, ByteArray.empty, 0, 0, 0, 0, false⟩
theorem exT1 : valueV exS 1 = 4613937818241073152 := by decide
theorem exT2 : valueV exS 5 = 4612811918334230528 := by decide
theorem exT3 : bestV (valuesV [exZ, exS] 1) 1 = (4613937818241073152, 1) := by decide

set_option maxHeartbeats 4000000 in
set_option maxRecDepth 100000 in
theorem awake22_c (w : World) : Calls Try.prog 5 #[] w fun e w' => e = .returned (.bool true) ∧ Below w.heap.size w w' := by
  have C1 := Lib.hid (value_c exS 1)
  rw [exT1] at C1
  have C2 := Lib.hid (value_c exS 5)
  rw [exT2] at C2
  have C3 := Lib.hid (fun A n c w h hn => most22_c A n c [exZ, exS] 1 w h hn)
  rw [exT3] at C3
  have hR0 := Row.new w 38 [.int .i64 0, .string ⟨#[102]⟩, .int .i64 3, .int .i64 2, .int .i64 0, .int .i64 5, .bool false]
  have hB0 : Below w.heap.size w (w.alloc (.cells #[.int .i64 0, .string ⟨#[102]⟩, .int .i64 3, .int .i64 2, .int .i64 0, .int .i64 5, .bool false] 38)) := (Below.refl _ _).alloc (Nat.le_refl _) _
  change Row (w.alloc (.cells #[.int .i64 0, .string ⟨#[102]⟩, .int .i64 3, .int .i64 2, .int .i64 0, .int .i64 5, .bool false] 38)) _ _ _ at hR0
  go_enter Try.func5, Try.ntmps5
  go_wp2_with fail
  generalize w.alloc (.cells #[.int .i64 0, .string ⟨#[102]⟩, .int .i64 3, .int .i64 2, .int .i64 0, .int .i64 5, .bool false] 38) = w1 at *
  refine (C1.out w1).mono ?_
  rintro e w2 ⟨rfl, hb2⟩
  have hR2 := hR0.grown hb2
  have HB2 : Hid (Below w.heap.size w w2) := Lib.hid (hB0.trans (hb2.mono hB0.size))
  have s0 : w2.cell? ⟨w.heap.size, 0, none⟩ = some (.int .i64 0) := hR2.cell 0
  have s1 : w2.cell? ⟨w.heap.size, 1, none⟩ = some (.string ⟨#[102]⟩) := hR2.cell 1
  have s2 : w2.cell? ⟨w.heap.size, 2, none⟩ = some (.int .i64 3) := hR2.cell 2
  have s3 : w2.cell? ⟨w.heap.size, 3, none⟩ = some (.int .i64 2) := hR2.cell 3
  have s4 : w2.cell? ⟨w.heap.size, 4, none⟩ = some (.int .i64 0) := hR2.cell 4
  have s5 : w2.cell? ⟨w.heap.size, 5, none⟩ = some (.int .i64 5) := hR2.cell 5
  have s6 : w2.cell? ⟨w.heap.size, 6, none⟩ = some (.bool false) := hR2.cell 6
  have HR2 := Lib.hid hR2
  clear hR0 hB0 hb2 hR2
  go_wp2_with fail
  refine (C2.out w2).mono ?_
  rintro e w3 ⟨rfl, hb3⟩
  have hR3 := HR2.out.grown hb3
  have HB3 : Hid (Below w.heap.size w w3) := Lib.hid (HB2.out.trans (hb3.mono HB2.out.size))
  clear s0 s1 s2 s3 s4 s5 s6 hb3
  have s0 : w3.cell? ⟨w.heap.size, 0, none⟩ = some (.int .i64 0) := hR3.cell 0
  have s1 : w3.cell? ⟨w.heap.size, 1, none⟩ = some (.string ⟨#[102]⟩) := hR3.cell 1
  have s2 : w3.cell? ⟨w.heap.size, 2, none⟩ = some (.int .i64 3) := hR3.cell 2
  have s3 : w3.cell? ⟨w.heap.size, 3, none⟩ = some (.int .i64 2) := hR3.cell 3
  have s4 : w3.cell? ⟨w.heap.size, 4, none⟩ = some (.int .i64 0) := hR3.cell 4
  have s5 : w3.cell? ⟨w.heap.size, 5, none⟩ = some (.int .i64 5) := hR3.cell 5
  have s6 : w3.cell? ⟨w.heap.size, 6, none⟩ = some (.bool false) := hR3.cell 6
  have hR4 := Row.new w3 38 (sts [exZ, exS])
  have C4 := Lib.hid (C3.out (some ⟨w3.heap.size, 0, none⟩) 2 2 _ ⟨rfl, fun _ => ⟨_, rfl, fun j hj => by rw [add_zero]; exact hR4.cell j⟩⟩ (by omega))
  have HB4 : Hid (∀ o, Below w.heap.size w (w3.alloc o)) := Lib.hid (fun o => HB3.out.alloc HB3.out.size o)
  have HSZ : Hid (∀ o, w.heap.size ≤ (w3.alloc o).heap.size) := Lib.hid (fun o => (HB4.out o).size)
  clear hR3 hR4
  go_wp2_with (go_at_call 15; refine C4.out.mono ?_; rintro e w5 ⟨rfl, hb5⟩; have HB5 := Lib.hid ((HB4.out _).trans (hb5.mono (HSZ.out _))); clear hb5)
  go_ret
  exact ⟨rfl, HB5.out⟩
end Go.Proofs.Ytfiimmbpfdpjfaa
