/-
  out, Cut of a book.
-/
import Derived.Test.YtkdiibgjkipdnaaWqP
namespace Go.Proofs.Ytkdiibgjkipdnaa
open Go.RowKit Go.Maps
set_option linter.unusedSimpArgs false

theorem out_c (bp : Nat) (B : Bk) (x : Nd) (w : World) (h : BookAt w bp B) (hN : B.N.length ≤ 100000) (hx : x ∈ B.N) :
    Calls Try.prog 29 #[.pointer (some ⟨bp, 0, none⟩), .pointer (some ⟨x.blk, 0, none⟩)] w fun e w' => e = .returned (.tuple #[]) ∧ BookTo w bp B w' (B.cut x.blk) := by
  obtain ⟨l1, l2, hl⟩ := List.append_of_mem (mem_inRow hx rfl)
  rcases List.eq_nil_or_concat l1 with rfl | ⟨l, y, rfl⟩
  · cases l2 with
    | nil => exact outNN_c bp B x w h hN hl
    | cons z l2 => exact outNS_c bp B x z l2 w h hN hl
  · rw [List.concat_eq_append] at hl
    cases l2 with
    | nil => exact outSN_c bp B x l y w h hN hl
    | cons z l2 => exact outSS_c bp B x l y z l2 w h hN hl
def CutTo (w : World) (bp : Nat) (B : Bk) (o : Option Nd) (e : Ending) (w' : World) : Prop := match o with
  | some x => e = .returned (.int .i64 0) ∧ BookTo w bp B w' (B.cut x.blk)
  | none => e = .returned (.int .i64 111) ∧ BookTo w bp B w' B
end Go.Proofs.Ytkdiibgjkipdnaa
