/-
  The document's examples at the head of figure's statements.
-/
import Derived.Test.YtmkbbfcecolobaaFigE
namespace Go.Proofs.Ytmkbbfcecolobaa
open Go.RowKit
set_option linter.unusedSimpArgs false

theorem third : ratioV 1 3 = 4599676419421066581 := by kernel_rfl
theorem third_class : classV 4599676419421066581 = 5 := by decide
theorem one_text : (⟨(textL (onev 4607182418800017408)).toArray⟩ : ByteArray) = ⟨#[51, 102, 102, 48, 48, 48, 48, 48, 48, 48, 48, 48, 48, 48, 48, 48]⟩ := by
  decide
theorem most_three : bestV [4607182418800017408, 4613937818241073152, 4611686018427387904] 1 = (4613937818241073152, 1) := by decide

theorem Drw.below {w w' : World} (h : Drw w w') : Below w.heap.size w w' := by
  obtain ⟨n, rfl⟩ := h
  exact ⟨rfl, rfl, rfl, Nat.le_refl _, fun _ _ => rfl⟩

set_option maxHeartbeats 1000000 in
theorem awake01_c (w : World) : Calls Try.prog 6 #[] w fun e w' => e = .returned (.bool true) ∧ Below w.heap.size w w' := by
  have c1 := Lib.hid (ratio_c 1 3)
  rw [third] at c1
  have c2 := Lib.hid (text_c 4607182418800017408 (by decide))
  rw [one_text] at c2
  have c3 := Lib.hid (class_c 4599676419421066581 (by decide))
  rw [third_class] at c3
  go_enter Try.func6, Try.ntmps6
  go_wp2_with fail
  refine (c1.out _).mono ?_
  rintro e w1 ⟨rfl, hd1⟩
  have HB1 := Lib.hid hd1.below
  clear hd1
  go_wp2_with fail
  refine (c2.out _).mono ?_
  rintro e w2 ⟨rfl, hd2⟩
  have HB2 := Lib.hid hd2
  clear hd2
  go_wp2_with fail
  refine (c3.out _).mono ?_
  rintro e w3 ⟨rfl, rfl⟩
  go_wp2_with fail
  refine (most_c _ 3 3 [4607182418800017408, 4613937818241073152, 4611686018427387904] _ (Fs.of_row (xs := [4607182418800017408, 4613937818241073152, 4611686018427387904]) (rest := []) (Row.new _ _ _) (by decide) (by decide))).mono ?_
  rintro e w4 ⟨rfl, rfl⟩
  rw [most_three]
  have f1 : (Fl.F.order 4613937818241073152 4613937818241073152 == some .eq) = true := by decide
  have f2 : (Fl.F.order 4599676419421066581 4599075939470750515 == some .gt) = true := by decide
  have f3 : (Fl.F.order 4599676419421066581 4600877379321698714 == some .lt) = true := by decide
  go_wp2
  go_ret
  exact ⟨rfl, (HB1.out.trans (HB2.out.mono HB1.out.size)).alloc (by have := HB1.out.size; have := HB2.out.size; omega) _⟩
end Go.Proofs.Ytmkbbfcecolobaa
