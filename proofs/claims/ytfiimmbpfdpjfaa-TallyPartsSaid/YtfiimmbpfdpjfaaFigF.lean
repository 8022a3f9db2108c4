/-
  The document's examples at the head of figure's statements.
-/
import Derived.Test.YtfiimmbpfdpjfaaFigE
namespace Go.Proofs.Ytfiimmbpfdpjfaa
open Go.RowKit
set_option linter.unusedSimpArgs false

theorem third : ratioV 1 3 = 4599676419421066581 := by kernel_rfl
theorem third_class : classV 4599676419421066581 = 5 := by decide
theorem one_text : (⟨(textL (onev 4607182418800017408)).toArray⟩ : ByteArray) = ⟨#[51, 102, 102, 48, 48, 48, 48, 48, 48, 48, 48, 48, 48, 48, 48, 48]⟩ := by
  decide
theorem most_three : bestV [4607182418800017408, 4613937818241073152, 4611686018427387904] 1 = (4613937818241073152, 1) := by decide

theorem Drw.below {w w' : World} (h : Drw w w') : Below w.heap.size w w' := by
  obtain ⟨n, rfl⟩ := h
  exact ⟨rfl, rfl, rfl, Nat.le_refl _, fun _ _ => rfl⟩

end Go.Proofs.Ytfiimmbpfdpjfaa
