/-
  out, Cut of a book.
-/
import Derived.Test.YtgndpodeedjohaaWqP
namespace Go.Proofs.Ytgndpodeedjohaa
open Go.RowKit Go.Maps
set_option linter.unusedSimpArgs false

theorem out_c (bp : Nat) (B : Bk) (x : Nd) (w : World) (h : BookAt w bp B) (hN : B.N.length ≤ 100000) (hx : x ∈ B.N) :
    Calls Try.prog 34 #[.pointer (some ⟨bp, 0, none⟩), .pointer (some ⟨x.blk, 0, none⟩)] w fun e w' => e = .returned (.tuple #[]) ∧ BookTo w bp B w' (B.cut x.blk) := by
  obtain ⟨l1, l2, hl⟩ := List.append_of_mem (mem_inRow hx rfl)
  rcases List.eq_nil_or_concat l1 with rfl | ⟨l, y, rfl⟩
  · cases l2 with
    | nil => exact outNN_c bp B x w h hN hl
    | cons z l2 => exact outNS_c bp B x z l2 w h hN hl
  · rw [List.concat_eq_append] at hl
    cases l2 with
    | nil => exact outSN_c bp B x l y w h hN hl
    | cons z l2 => exact outSS_c bp B x l y z l2 w h hN hl
def CutTo (w : World) (bp : Nat) (B : Bk) (o : Option Nd) (e : Ending) (w' : World) : Prop := match o with
  | some x => e = .returned (.int .i64 0) ∧ BookTo w bp B w' (B.cut x.blk)
  | none => e = .returned (.int .i64 111) ∧ BookTo w bp B w' B
set_option maxHeartbeats 2000000 in
set_option maxRecDepth 100000 in
theorem cut_c (bp : Nat) (B : Bk) (s g : Int) (w : World) (h : BookAt w bp B) (hN : B.N.length ≤ 100000) (hs : 0 ≤ s ∧ s < 4294967296) :
    Calls Try.prog 14 #[.pointer (some ⟨bp, 0, none⟩), .agg #[.int .u32 s, .int .u32 g]] w (CutTo w bp B (fnd B.N s g)) := by
  have hA : Below w.heap.size w (w.alloc (.cells #[.int .u32 s, .int .u32 g] 41)) := (Below.refl _ _).alloc (Nat.le_refl _) _
  have hR := Row.new w 41 [.int .u32 s, .int .u32 g]
  change Row (w.alloc (.cells #[.int .u32 s, .int .u32 g] 41)) _ _ _ at hR
  have r0 := hR.cell 0
  have r1 := hR.cell 1
  dsimp only [List.getElem?_cons_zero, List.getElem?_cons_succ] at r0 r1
  have h1 := h.below hA
  have CF := Lib.hid (find_c bp B s g _ h1 hs)
  have HA := Lib.hid hA
  have H0 := Lib.hid h
  have H1 := Lib.hid h1
  have HN := Lib.hid hN
  clear h h1 hA hR hN
  cases hf : fnd B.N s g with
  | none =>
    rw [hf, fndV_none] at CF
    clear hf
    go_enter Try.func14, Try.ntmps14
    go_wp2_with fail
    generalize w.alloc (.cells #[.int .u32 s, .int .u32 g] 41) = w1 at *
    refine CF.out.mono ?_
    rintro e w2 ⟨rfl, hb2⟩
    have HB2 : Hid (Below w.heap.size w w2) := Lib.hid (HA.out.trans (hb2.mono HA.out.size))
    clear hb2 CF HA
    go_wp2
    go_ret
    exact ⟨rfl, ⟨H0.out.below HB2.out, But.of_below HB2.out _, fun b hb => .inl hb⟩⟩
  | some x =>
    have HX := Lib.hid (fnd_some hf).1
    rw [hf, fndV_some] at CF
    clear hf
    go_enter Try.func14, Try.ntmps14
    go_wp2_with fail
    generalize w.alloc (.cells #[.int .u32 s, .int .u32 g] 41) = w1 at *
    refine CF.out.mono ?_
    rintro e w2 ⟨rfl, hb2⟩
    have HB2 : Hid (Below w.heap.size w w2) := Lib.hid (HA.out.trans (hb2.mono HA.out.size))
    have CO := Lib.hid (out_c bp B x w2 (H0.out.below HB2.out) HN.out HX.out)
    clear hb2 CF HA
    go_wp2_with fail
    refine CO.out.mono ?_
    rintro e w3 ⟨rfl, hto⟩
    have HTO := Lib.hid (BookTo.after HB2.out H0.out hto)
    clear hto CO
    go_wp2
    go_ret
    exact ⟨rfl, HTO.out⟩
end Go.Proofs.Ytgndpodeedjohaa
