/-
  '==' of rows, records.
-/
import Derived.Test.YtkdiibgjkipdnaaWqV
namespace Go.Proofs.Ytkdiibgjkipdnaa
open Go.RowKit Go.Maps
set_option linter.unusedSimpArgs false

theorem eqIn_i32 (d : Nat) (x y : Int) (w : World) : (Op.equalIn (d + 1) 33 (.int .u32 x) (.int .u32 y)).run Try.prog w = .ok (x == y) w := run_equalIn_int w d _ _ _ _ _ Try.underlying33
theorem eqIn_side (d : Nat) (x y : Int) (w : World) : (Op.equalIn (d + 1) 58 (.int .i64 x) (.int .i64 y)).run Try.prog w = .ok (x == y) w := run_equalIn_int w d _ _ _ _ _ Try.underlying58
theorem eqIn_int (d : Nat) (x y : Int) (w : World) : (Op.equalIn (d + 1) 3 (.int .i64 x) (.int .i64 y)).run Try.prog w = .ok (x == y) w := run_equalIn_int w d _ _ _ _ _ Try.underlying3
def sameK (a b : Key) : Bool := sameH a.s a.g b.s b.g && a.d == b.d
theorem sameK_iff {a b : Key} : sameK a b = true ↔ a = b := by
  cases a; cases b
  simp [sameK, sameH]
  constructor
  · rintro ⟨⟨h1, h2⟩, h3⟩; exact ⟨h1, h2, h3⟩
  · rintro ⟨h1, h2, h3⟩; exact ⟨⟨h1, h2⟩, h3⟩
theorem eqIn_row (d : Nat) (a b : Key) (w : World) : (Op.equalIn (d + 3) 60 a.val b.val).run Try.prog w = .ok (sameK a b) w := by
  unfold Key.val
  rw [run_equalIn_agg w (d + 2) _ _ _ (by kernel_rfl) (by kernel_rfl)]
  have hf : (Try.prog.fieldsOf 60).toList = [⟨"Of", 35, 0, false, "", "", 0⟩, ⟨"Side", 58, 2, false, "", "", 8⟩] := by kernel_rfl
  rw [hf]
  have p0 : ∀ a : Key, (part 35 #[Value.int .u32 a.s, .int .u32 a.g, .int .i64 a.d] 0).run Try.prog w = .ok (.agg #[.int .u32 a.s, .int .u32 a.g]) w := fun a => by kernel_rfl
  have p1 : ∀ a : Key, (part 58 #[Value.int .u32 a.s, .int .u32 a.g, .int .i64 a.d] 2).run Try.prog w = .ok (.int .i64 a.d) w := fun a => run_part_plain w (by kernel_rfl) rfl
  have e0 := fun a b c e => eqIn_handle d a b c e w
  have e1 := fun a b => eqIn_side (d + 1) a b w
  unfold sameK
  cases h1 : sameH a.s a.g b.s b.g <;> cases h2 : (a.d == b.d) <;> simp [Op.eqFields, p0, p1, e0, e1, h1, h2, Result.andThen_ok]
theorem run_eql_row (a b : Key) (w : World) : (binOp .eql 60 (.agg #[.int .u32 a.s, .int .u32 a.g, .int .i64 a.d]) (.agg #[.int .u32 b.s, .int .u32 b.g, .int .i64 b.d])).run Try.prog w = .ok (.bool (sameK a b)) w := by
  rw [run_eql_struct, show (10000 : Nat) = 9997 + 3 from rfl]
  have := eqIn_row 9997 a b w
  unfold Key.val at this
  rw [this]; rfl
theorem eqIn_i64 (d : Nat) (x y : Int) (w : World) : (Op.equalIn (d + 1) 2 (.int .i64 x) (.int .i64 y)).run Try.prog w = .ok (x == y) w := run_equalIn_int w d _ _ _ _ _ Try.underlying2
def sameV (a b c a' b' c' : Int) : Bool := a == a' && sameH b c b' c'
theorem eqIn_value (d : Nat) (a b c a' b' c' : Int) (w : World) : (Op.equalIn (d + 3) 43 (.agg #[.int .i64 a, .int .u32 b, .int .u32 c]) (.agg #[.int .i64 a', .int .u32 b', .int .u32 c'])).run Try.prog w = .ok (sameV a b c a' b' c') w := by
  rw [run_equalIn_agg w (d + 2) _ _ _ (by kernel_rfl) (by kernel_rfl)]
  have hf : (Try.prog.fieldsOf 43).toList = [⟨"N", 2, 0, false, "", "", 0⟩, ⟨"H", 35, 1, false, "", "", 8⟩] := by kernel_rfl
  rw [hf]
  have p0 : ∀ a b c : Int, (part 2 #[Value.int .i64 a, .int .u32 b, .int .u32 c] 0).run Try.prog w = .ok (.int .i64 a) w := fun a b c => run_part_plain w (by kernel_rfl) rfl
  have p1 : ∀ a b c : Int, (part 35 #[Value.int .i64 a, .int .u32 b, .int .u32 c] 1).run Try.prog w = .ok (.agg #[.int .u32 b, .int .u32 c]) w := fun a b c => by kernel_rfl
  have e0 := fun a b => eqIn_i64 (d + 1) a b w
  have e1 := fun a b c e => eqIn_handle d a b c e w
  unfold sameV
  cases h1 : (a == a') <;> cases h2 : sameH b c b' c' <;> simp [Op.eqFields, p0, p1, e0, e1, h1, h2, Result.andThen_ok]
def sameR (a b : Rc) : Bool := sameH a.ms a.mg b.ms b.mg && (sameH a.hs a.hg b.hs b.hg && (sameK a.key b.key && (a.arm == b.arm && sameV a.vn a.vs a.vg b.vn b.vs b.vg)))
theorem sameR_iff {a b : Rc} : sameR a b = true ↔ a = b := by
  unfold sameR
  simp only [Bool.and_eq_true, sameH_iff, sameK_iff]
  cases a; cases b
  simp [Rc.key, sameV, sameH]
  constructor
  · rintro ⟨⟨h1, h2⟩, ⟨h3, h4⟩, ⟨h5, h6, h7⟩, h8, h9, h10, h11⟩; exact ⟨h1, h2, h3, h4, h5, h6, h7, h8, h9, h10, h11⟩
  · rintro ⟨h1, h2, h3, h4, h5, h6, h7, h8, h9, h10, h11⟩; exact ⟨⟨h1, h2⟩, ⟨h3, h4⟩, ⟨h5, h6, h7⟩, h8, h9, h10, h11⟩
theorem eqIn_record (d : Nat) (a b : Rc) (w : World) : (Op.equalIn (d + 4) 96 a.agg b.agg).run Try.prog w = .ok (sameR a b) w := by
  unfold Rc.agg
  rw [run_equalIn_agg w (d + 3) _ _ _ (by kernel_rfl) (by kernel_rfl)]
  have hf : (Try.prog.fieldsOf 96).toList = [⟨"Me", 35, 0, false, "", "", 0⟩, ⟨"Who", 35, 2, false, "", "", 8⟩, ⟨"Row", 60, 4, false, "", "", 16⟩, ⟨"Arm", 3, 7, false, "", "", 32⟩, ⟨"V", 43, 8, false, "", "", 40⟩] := by kernel_rfl
  rw [hf]
  have p0 : ∀ a : Rc, (part 35 a.cells.toArray 0).run Try.prog w = .ok (.agg #[.int .u32 a.ms, .int .u32 a.mg]) w := fun a => by kernel_rfl
  have p1 : ∀ a : Rc, (part 35 a.cells.toArray 2).run Try.prog w = .ok (.agg #[.int .u32 a.hs, .int .u32 a.hg]) w := fun a => by kernel_rfl
  have p2 : ∀ a : Rc, (part 60 a.cells.toArray 4).run Try.prog w = .ok a.key.val w := fun a => by kernel_rfl
  have p3 : ∀ a : Rc, (part 3 a.cells.toArray 7).run Try.prog w = .ok (.int .i64 a.arm) w := fun a => run_part_plain w (by kernel_rfl) rfl
  have p4 : ∀ a : Rc, (part 43 a.cells.toArray 8).run Try.prog w = .ok (.agg #[.int .i64 a.vn, .int .u32 a.vs, .int .u32 a.vg]) w := fun a => by kernel_rfl
  have e0 := fun a b c e => eqIn_handle (d + 1) a b c e w
  have e1 := fun a b => eqIn_row d a b w
  have e2 := fun a b => eqIn_int (d + 2) a b w
  have e3 := fun a b c a' b' c' => eqIn_value d a b c a' b' c' w
  unfold sameR
  cases h1 : sameH a.ms a.mg b.ms b.mg <;> cases h2 : sameH a.hs a.hg b.hs b.hg <;> cases h3 : sameK a.key b.key <;> cases h4 : (a.arm == b.arm) <;> cases h5 : sameV a.vn a.vs a.vg b.vn b.vs b.vg <;>
    simp [Op.eqFields, p0, p1, p2, p3, p4, e0, e1, e2, e3, h1, h2, h3, h4, h5, Result.andThen_ok]
theorem run_neq_record (a b : Rc) (w : World) : (binOp .neq 96 a.agg b.agg).run Try.prog w = .ok (.bool (!sameR a b)) w := by
  have := eqIn_record 9996 a b w
  unfold Rc.agg at this ⊢
  rw [run_neq_struct, show (10000 : Nat) = 9996 + 4 from rfl, this]; rfl
end Go.Proofs.Ytkdiibgjkipdnaa
