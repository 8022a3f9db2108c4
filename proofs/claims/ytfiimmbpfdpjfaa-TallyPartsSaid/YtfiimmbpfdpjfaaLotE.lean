/-
  Cells far from a store (of LotE, without lots).
-/
import Derived.Test.YtfiimmbpfdpjfaaLotD
import Derived.StillTailTactics
namespace Go.Proofs.Ytfiimmbpfdpjfaa
open Go.RowKit
set_option linter.unusedSimpArgs false

theorem far_cell {w : World} {p q : Addr} {v : Value} (h : q.block ≠ p.block) (m : Nat) : ((w.drewN m).setCell p v).cell? q = w.cell? q := (World.cell?_of_block (w := w.drewN m) (Below.heap_setCell _ p v _ h))
theorem far_frozen {w : World} {p q : Addr} {v : Value} (h : q.block ≠ p.block) (m : Nat) : ((w.drewN m).setCell p v).frozen? q = w.frozen? q := (World.frozen?_of_block (w := w.drewN m) (Below.heap_setCell _ p v _ h))
theorem grown_set {w : World} {p : Addr} (v : Value) (m : Nat) : w.grownBy ((w.drewN m).setCell p v) (some p.block) :=
  ⟨rfl, rfl, rfl, by simp [World.setCell, World.drewN], fun k _ hk => Below.heap_setCell (w.drewN m) p v k (fun e => hk (by rw [e]))⟩
theorem grownBy.tr {a b c : World} {x : Option Nat} (h : a.grownBy b x) (k : b.grownBy c x) : a.grownBy c x :=
  ⟨k.os.trans h.os, k.tape.trans h.tape, k.output.trans h.output, Nat.le_trans h.size k.size, fun i hi hx => (k.block i (Nat.lt_of_lt_of_le hi h.size) hx).trans (h.block i hi hx)⟩
theorem below_grown {a b : World} (h : Below a.heap.size a b) (x : Option Nat) : a.grownBy b x := ⟨h.os, h.tape, h.output, h.size, fun k hk _ => h.block k hk⟩

end Go.Proofs.Ytfiimmbpfdpjfaa
