/-
  Of, All, New of a book.
-/
import Derived.Test.YtkdiibgjkipdnaaWqU
namespace Go.Proofs.Ytkdiibgjkipdnaa
open Go.RowKit Go.Maps
set_option linter.unusedSimpArgs false

theorem ofFit_c (b z : Nat) (x0 x1 y0 y1 : Int) (w : World) (h0 : w.cell? ⟨b, 2, none⟩ = some (.int .u32 x0)) (h1 : w.cell? ⟨b, 3, none⟩ = some (.int .u32 x1)) (k0 : w.cell? ⟨z, 0, none⟩ = some (.int .u32 y0)) (k1 : w.cell? ⟨z, 1, none⟩ = some (.int .u32 y1)) :
    Calls Try.prog 27 #[.pointer (some ⟨b, 0, none⟩), .pointer (some ⟨z, 0, none⟩)] w fun e w' => e = .returned (.bool (sameH x0 x1 y0 y1)) ∧ ∃ q, w' = w.drewN q := by
  have e1 := fun w => run_eql_handle x0 x1 y0 y1 w
  go_enter Try.func27, Try.ntmps27
  go_wp2_with fail
  go_quiet (fail)
  go_wp2_with fail
  go_ret
  exact ⟨rfl, _, rfl⟩
set_option maxHeartbeats 2000000 in
set_option maxRecDepth 100000 in
theorem of_c (bp : Nat) (B : Bk) (hs hg : Int) (w : World) (h : BookAt w bp B) (hser : ∀ x ∈ B.N, 0 ≤ x.ser) :
    Calls Try.prog 22 #[.pointer (some ⟨bp, 0, none⟩), .agg #[.int .u32 hs, .int .u32 hg]] w (RecsOut w ((B.N.filter fun x => sameH x.rc.hs x.rc.hg hs hg).map (·.rc))) := by
  have hA : Go.RowKit.Below w.heap.size w (w.alloc (.cells #[.int .u32 hs, .int .u32 hg] 35)) := (Go.RowKit.Below.refl _ _).alloc (Nat.le_refl _) _
  have hR := Row.new w 35 [.int .u32 hs, .int .u32 hg]
  change Row (w.alloc (.cells #[.int .u32 hs, .int .u32 hg] 35)) _ _ _ at hR
  have h1 := h.below hA
  have CS := Lib.hid (some_c bp B 27 #[.pointer (some ⟨w.heap.size, 0, none⟩)] (fun x => sameH x.rc.hs x.rc.hg hs hg) (w.alloc (.cells #[.int .u32 hs, .int .u32 hg] 35)) h1 hser (fun args w => by kernel_rfl) (fun w' hb x hx => by
    obtain ⟨_, _, a2, a3, _⟩ := Nd.at_ ((h1.below hb).mem.node x hx)
    have hR2 := hR.grown hb
    exact ofFit_c x.blk w.heap.size _ _ _ _ w' a2 a3 (hR2.cell 0) (hR2.cell 1)))
  have HA := Lib.hid hA
  clear h hser hA hR h1
  go_enter Try.func22, Try.ntmps22
  go_wp2_with fail
  refine CS.out.mono ?_
  rintro e w5 ⟨v, rfl, hown, hb⟩
  have HO := Lib.hid (hown.mono HA.out.size)
  have HB := Lib.hid (HA.out.trans (hb.mono HA.out.size))
  clear hown hb CS
  go_wp2
  go_ret
  exact ⟨_, rfl, HO.out, HB.out⟩
/-- a book without waits -/
def newBk (mp : Nat) : Bk := ⟨mp, 0, .slice none 0 0, .slice none 0 0, [], [], 0, fun b => if b = mp then 1 else 0⟩
set_option maxHeartbeats 2000000 in
set_option maxRecDepth 100000 in
theorem new_c (w : World) :
    Calls Try.prog 6 #[] w fun e w' => e = .returned (.pointer (some ⟨w.heap.size + 1, 0, none⟩)) ∧ BookAt w' (w.heap.size + 1) (newBk w.heap.size) ∧ Go.RowKit.Below w.heap.size w w' := by
  have hmm := @run_makeMap Try.prog
  go_enter Try.func6, Try.ntmps6
  go_wp2
  go_ret
  have e1 : (w.alloc (.map #[] 0)).heap.size = w.heap.size + 1 := by simp
  have hR := Row.new (w.alloc (.map #[] 0)) 74 [.map (some w.heap.size), .slice none 0 0, .slice none 0 0, .int .i64 0, .int .i64 0]
  rw [e1] at hR
  have hM : RMap ((w.alloc (.map #[] 0)).alloc (.cells #[.map (some w.heap.size), .slice none 0 0, .slice none 0 0, .int .i64 0, .int .i64 0] 74)) w.heap.size 0 fun _ => none := (RMap.made w).kept (row := none) (World.grownBy_alloc _ _ none) (by simp)
  have hB : Go.RowKit.Below w.heap.size w ((w.alloc (.map #[] 0)).alloc (.cells #[.map (some w.heap.size), .slice none 0 0, .slice none 0 0, .int .i64 0, .int .i64 0] 74)) := ((Go.RowKit.Below.refl _ _).alloc (Nat.le_refl _) _).alloc (by omega) _
  refine ⟨rfl, ⟨⟨?_, hM, World.ownsRow_nil _ _ _ _, World.ownsRow_nil _ _ _ _, ?_, ?_⟩, ?_⟩, ?_⟩
  · exact hR
  · intro x hx; cases hx
  · intro x hx; cases hx
  · refine ⟨?_, ?_, ?_, ?_, ?_, ?_, ?_, ?_, ?_, ?_, ?_, ?_, ?_, ?_, ?_, ?_, ?_⟩
    · intro x hx; cases hx
    · exact List.nodup_nil
    · exact List.nodup_nil
    · intro x hx; cases hx
    · exact List.Pairwise.nil
    · intro x hx; cases hx
    · intro x hx; cases hx
    · intro x hx; cases hx
    · simp [newBk]
    · simp [newBk]
    · intro g hg; cases hg
    · intro g hg; cases hg
    · intro x hx; cases hx
    · intro x hx; cases hx
    · simp [newBk]
    · simp [newBk]
    · simp [newBk]
  · exact hB
end Go.Proofs.Ytkdiibgjkipdnaa
