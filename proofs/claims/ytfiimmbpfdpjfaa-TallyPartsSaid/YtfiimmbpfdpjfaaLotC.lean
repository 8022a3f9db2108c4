/-
  A slice whose cells are known (of LotC, without lots).
-/
import Derived.Test.YtfiimmbpfdpjfaaFigM
import Derived.Lib.SliceRun
import Derived.Deep.DeepCutAuto
import Derived.Deep.CutBlock
import Derived.Deep.RegionHeld3
namespace Go.Proofs.Ytfiimmbpfdpjfaa
open Go.RowKit
set_option linter.unusedSimpArgs false

/-- a slice whose cells read so -/
def Cs (w : World) (M : Option Addr) (vs : List Value) : Prop := 0 < vs.length → ∃ ad, M = some ad ∧ ∀ j, j < vs.length → w.cell? (ad.add j) = vs[j]?
theorem Cs.below {w w' : World} {M : Option Addr} {vs : List Value} (h : Cs w M vs) (hb : Below w.heap.size w w') : Cs w' M vs := fun h0 => by
  obtain ⟨ad, e, hc⟩ := h h0
  refine ⟨ad, e, fun j hj => ?_⟩
  have h1 := hc j hj
  rw [List.getElem?_eq_getElem hj] at h1 ⊢
  rw [hb.cell (p := ad.add j) (cell_lt h1)]
  exact h1

end Go.Proofs.Ytfiimmbpfdpjfaa
