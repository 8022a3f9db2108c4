/-
  Rows that stay (of LotD, without lots).
-/
import Derived.Test.YtfiimmbpfdpjfaaLotC
namespace Go.Proofs.Ytfiimmbpfdpjfaa
open Go.RowKit
set_option linter.unusedSimpArgs false

@[go_sem] theorem run_store_func {P : Program} {w : World} {a : Addr} {m : Mode} (f : Fn) (x y : Array Value) : (store a (.func f x y) m).run P w = stored P w a (.func f x y) m := run_store P w a _ m rfl

theorem Row.kept {w w' : World} {x b e : Nat} {vs : List Value} (h : Row w x e vs) (hg : w.grownBy w' (some b)) (hx : x ≠ b) : Row w' x e vs := (hg.block x h.lt (by simpa using hx)).trans h
theorem Cs.kept {w w' : World} {M : Option Addr} {vs : List Value} {b : Nat} (h : Cs w M vs) (hg : w.grownBy w' (some b)) (hM : ∀ ad, M = some ad → ad.block ≠ b) : Cs w' M vs := fun h0 => by
  obtain ⟨ad, e, hc⟩ := h h0
  refine ⟨ad, e, fun j hj => ?_⟩
  have h1 := hc j hj
  rw [List.getElem?_eq_getElem hj] at h1 ⊢
  exact hg.cell h1 (by rw [add_block]; simpa using hM ad e)
end Go.Proofs.Ytfiimmbpfdpjfaa
