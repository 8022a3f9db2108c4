/-
  find, Get of a book.
-/
import Derived.Test.YtkdiibgjkipdnaaWqC
import Derived.Deep.QuietTactic
import Derived.BigQuiet
import Derived.Deep.RegionHeld3
import Derived.Deep.RegionLaw
import Derived.Deep.DrawnRows
import Derived.Laws.ResultCell
import Derived.Laws.Rows
import Derived.StillTailTactics
namespace Go.Proofs.Ytkdiibgjkipdnaa
open Go.RowKit Go.Maps
set_option linter.unusedSimpArgs false

theorem results_cell2_row {P : Program} {fn : Func} {p u : Tmp} {ty : TypeId} (h : fn.results = #[.cell p ty, .tmp u]) (tmps : Array Value) (w : World) (g : Nat) (t : TypeId) (cs : Array Value) (fr : Nat × Nat) (d : TypeDesc)
    (hp : tmps.getD p undef = .pointer (some ⟨g, 0, none⟩)) (hg : w.heap[g]? = some (.cells cs t fr))
    (hu : P.underlying ty = some d) (hd : (match d with | .struct _ | .array _ _ => true | _ => false) = true) (hi : (P.info? ty).map (·.size) = some cs.size) :
    (results fn tmps).run P w = .ok (.tuple #[.agg cs, tmps.getD u undef]) w := by
  rw [results_cell_tmp h]
  have hp' : tmps[p]?.getD undef = .pointer (some ⟨g, 0, none⟩) := by simpa using hp
  simp [hp', asAddr, run_loadVar_row w g t ty cs fr d hg hu hd hi, Result.andThen]
/-- the wait of a handle -/
def fnd (N : List Nd) (s g : Int) : Option Nd := N.find? fun x => decide (x.rc.ms = s ∧ x.rc.mg = g)
theorem fnd_some {N : List Nd} {s g : Int} {x : Nd} (h : fnd N s g = some x) : x ∈ N ∧ x.rc.ms = s ∧ x.rc.mg = g := by
  unfold fnd at h
  have := List.find?_some h
  exact ⟨List.mem_of_find?_eq_some h, by simpa using this⟩
theorem fnd_none {N : List Nd} {s g : Int} (h : ∀ x ∈ N, x.rc.ms = s → x.rc.mg ≠ g) : fnd N s g = none := by
  unfold fnd
  rw [List.find?_eq_none]
  intro x hx
  simp only [decide_eq_true_eq, not_and]
  exact fun e => h x hx e
theorem fnd_mem {N : List Nd} (hn : (N.map (·.rc.ms)).Nodup) {x : Nd} (hx : x ∈ N) : fnd N x.rc.ms x.rc.mg = some x := by
  cases h : fnd N x.rc.ms x.rc.mg with
  | none =>
    unfold fnd at h
    rw [List.find?_eq_none] at h
    have := h x hx
    simp at this
  | some y =>
    obtain ⟨h1, h2, _⟩ := fnd_some h
    rw [nodup_inj hn h1 hx h2]
theorem Nd.at_ {w : World} {b e : Nat} {x : Nd} {a n : Option Nat} (h : Row w b e (x.cells a n)) :
    w.cell? ⟨b, 0, none⟩ = some (.int .u32 x.rc.ms) ∧ w.cell? ⟨b, 1, none⟩ = some (.int .u32 x.rc.mg) ∧ w.cell? ⟨b, 2, none⟩ = some (.int .u32 x.rc.hs) ∧ w.cell? ⟨b, 3, none⟩ = some (.int .u32 x.rc.hg) ∧
    w.cell? ⟨b, 4, none⟩ = some (.int .u32 x.rc.os) ∧ w.cell? ⟨b, 5, none⟩ = some (.int .u32 x.rc.og) ∧ w.cell? ⟨b, 6, none⟩ = some (.int .i64 x.rc.sd) ∧ w.cell? ⟨b, 7, none⟩ = some (.int .i64 x.rc.arm) ∧
    w.cell? ⟨b, 8, none⟩ = some (.int .i64 x.rc.vn) ∧ w.cell? ⟨b, 9, none⟩ = some (.int .u32 x.rc.vs) ∧ w.cell? ⟨b, 10, none⟩ = some (.int .u32 x.rc.vg) ∧ w.cell? ⟨b, 11, none⟩ = some (.int .i64 x.ser) ∧
    w.cell? ⟨b, 12, none⟩ = some (pt a) ∧ w.cell? ⟨b, 13, none⟩ = some (pt n) :=
  ⟨h.cell 0, h.cell 1, h.cell 2, h.cell 3, h.cell 4, h.cell 5, h.cell 6, h.cell 7, h.cell 8, h.cell 9, h.cell 10, h.cell 11, h.cell 12, h.cell 13⟩
def fndV (o : Option Nd) : Value := .tuple #[pt (o.map (·.blk)), .int .i64 (match o with | some _ => 0 | none => 111)]
theorem fndV_none : fndV none = .tuple #[.pointer none, .int .i64 111] := rfl
theorem fndV_some (x : Nd) : fndV (some x) = .tuple #[.pointer (some ⟨x.blk, 0, none⟩), .int .i64 0] := rfl
end Go.Proofs.Ytkdiibgjkipdnaa
