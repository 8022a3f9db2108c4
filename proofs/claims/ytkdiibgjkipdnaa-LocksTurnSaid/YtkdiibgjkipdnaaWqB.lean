/-
  '==' of handles, rows, records.
-/
import Derived.Test.YtkdiibgjkipdnaaWqA
import Derived.Laws.StructEq
import Derived.ChangeKeysEq
namespace Go.Proofs.Ytkdiibgjkipdnaa
open Go.RowKit Go.Maps
set_option linter.unusedSimpArgs false

/-- two lists of one-cell numbers, cell by cell -/
def sameH (a b c d : Int) : Bool := a == c && b == d
theorem sameH_iff {a b c d : Int} : sameH a b c d = true ↔ a = c ∧ b = d := by simp [sameH]
theorem eqIn_handle (d : Nat) (a b a' b' : Int) (w : World) : (Op.equalIn (d + 2) 35 (.agg #[.int .u32 a, .int .u32 b]) (.agg #[.int .u32 a', .int .u32 b'])).run Try.prog w = .ok (sameH a b a' b') w := by
  rw [run_equalIn_agg w (d + 1) _ _ _ (by kernel_rfl) (by kernel_rfl)]
  have hf : (Try.prog.fieldsOf 35).toList = [⟨"Slot", 33, 0, false, "", "", 0⟩, ⟨"Gen", 33, 1, false, "", "", 4⟩] := by kernel_rfl
  rw [hf]
  have p0 : ∀ x y : Int, (part 33 #[Value.int .u32 x, .int .u32 y] 0).run Try.prog w = .ok (.int .u32 x) w := fun x y => run_part_plain w (by kernel_rfl) rfl
  have p1 : ∀ x y : Int, (part 33 #[Value.int .u32 x, .int .u32 y] 1).run Try.prog w = .ok (.int .u32 y) w := fun x y => run_part_plain w (by kernel_rfl) rfl
  have e0 : ∀ x y : Int, (Op.equalIn (d + 1) 33 (.int .u32 x) (.int .u32 y)).run Try.prog w = .ok (x == y) w := fun x y => run_equalIn_int w d _ _ _ _ _ Try.underlying33
  unfold sameH
  cases h1 : (a == a') <;> cases h2 : (b == b') <;> simp [Op.eqFields, p0, p1, e0, h1, h2, Result.andThen_ok]
theorem run_eql_handle (a b a' b' : Int) (w : World) : (binOp .eql 35 (.agg #[.int .u32 a, .int .u32 b]) (.agg #[.int .u32 a', .int .u32 b'])).run Try.prog w = .ok (.bool (sameH a b a' b')) w := by
  rw [run_eql_struct, show (10000 : Nat) = 9998 + 2 from rfl, eqIn_handle]; rfl
theorem run_neq_handle (a b a' b' : Int) (w : World) : (binOp .neq 35 (.agg #[.int .u32 a, .int .u32 b]) (.agg #[.int .u32 a', .int .u32 b'])).run Try.prog w = .ok (.bool (!sameH a b a' b')) w := by
  rw [run_neq_struct, show (10000 : Nat) = 9998 + 2 from rfl, eqIn_handle]; rfl
end Go.Proofs.Ytkdiibgjkipdnaa
