/-
  own and still: a list of the caller's with marks behind it.
-/
import Derived.Test.YtfiimmbpfdpjfaaFigG
import Derived.Laws.CopyOwn
namespace Go.Proofs.Ytfiimmbpfdpjfaa
open Go.RowKit
set_option linter.unusedSimpArgs false

@[go_sem] theorem run_store_float {P : Program} {w : World} {a : Addr} {m : Mode} (k : FloatKind) (b : Nat) : (store a (.float k b) m).run P w = stored P w a (.float k b) m := run_store P w a _ m rfl

theorem infoF : (Try.prog.info? 26).map (fun i => (i.zero, i.size, i.bytes)) = some (some (.float .f64 0), 1, 8) := by kernel_rfl
theorem made_flo (n : Nat) : madeCells #[Value.float .f64 0] n = (List.replicate n (Value.float .f64 0)).toArray := by
  apply Array.ext_getElem?
  intro i
  unfold madeCells
  by_cases h : i < n
  · simp [h, Nat.mod_one]
  · simp [h]
/-- make([]float64, m) -/
theorem run_make_flo (m : Int) (h0 : 0 ≤ m) (hm : m ≤ 17592186044416) (w : World) :
    (Instr.makeSlice 61 (.int .i64 m) (.int .i64 m)).run Try.prog w = .ok (.slice (some ⟨w.heap.size, 0, none⟩) m.toNat m.toNat) (w.alloc (.cells (List.replicate m.toNat (.float .f64 0)).toArray 26)) := by
  obtain ⟨i0, hi, hz⟩ := Option.map_eq_some_iff.1 infoF
  simp only [Prod.mk.injEq] at hz
  obtain ⟨hz0, hz1, hz2⟩ := hz
  have := run_make (P := Try.prog) w 61 26 i0 (.float .f64 0) Try.underlying61 hi hz0 .i64 .i64 m m h0 (Int.le_refl _) (by rw [hz2]; omega) (by omega)
  rw [this, hz1, Nat.mul_one]
  show Result.ok _ (w.alloc (.cells (madeCells #[.float .f64 0] _) _)) = _
  rw [made_flo]

theorem flo_len (xs : List Nat) : (flo xs).length = xs.length := by simp [flo]
theorem flo_get (xs : List Nat) (j : Nat) (h : j < xs.length) : (flo xs)[j]? = some (.float .f64 (xs.getD j 0)) := by
  simp [flo, List.getElem?_eq_getElem h, List.getD_eq_getElem?_getD]

theorem set_marks (fs : List Value) (n : Nat) (h : fs.length = n) (a b u v : Value) : ((fs ++ [a, b]).set n u).set (n + 1) v = fs ++ [u, v] := by
  subst h
  simp [List.set_append]

theorem Fs.get {w : World} {A : Option Addr} {n : Nat} {xs : List Nat} (h : Fs w A n xs) : ∃ ad, 0 < n → A = some ad ∧ ∀ j, j < n → w.cell? (ad.add j) = some (.float .f64 (xs.getD j 0)) := by
  by_cases h0 : 0 < n
  · obtain ⟨ad, h1⟩ := h.at_ h0
    exact ⟨ad, fun _ => h1⟩
  · exact ⟨default, fun h1 => absurd h1 h0⟩

end Go.Proofs.Ytfiimmbpfdpjfaa
