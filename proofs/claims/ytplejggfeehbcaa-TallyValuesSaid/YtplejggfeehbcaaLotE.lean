/-
  lots.Next: the closure that hands out the next lot; Used, Left.
-/
import Derived.Test.YtplejggfeehbcaaLotD
import Derived.StillTailTactics
namespace Go.Proofs.Ytplejggfeehbcaa
open Go.RowKit
set_option linter.unusedSimpArgs false

theorem far_cell {w : World} {p q : Addr} {v : Value} (h : q.block ≠ p.block) (m : Nat) : ((w.drewN m).setCell p v).cell? q = w.cell? q := (World.cell?_of_block (w := w.drewN m) (Below.heap_setCell _ p v _ h))
theorem far_frozen {w : World} {p q : Addr} {v : Value} (h : q.block ≠ p.block) (m : Nat) : ((w.drewN m).setCell p v).frozen? q = w.frozen? q := (World.frozen?_of_block (w := w.drewN m) (Below.heap_setCell _ p v _ h))
theorem grown_set {w : World} {p : Addr} (v : Value) (m : Nat) : w.grownBy ((w.drewN m).setCell p v) (some p.block) :=
  ⟨rfl, rfl, rfl, by simp [World.setCell, World.drewN], fun k _ hk => Below.heap_setCell (w.drewN m) p v k (fun e => hk (by rw [e]))⟩
theorem grownBy.tr {a b c : World} {x : Option Nat} (h : a.grownBy b x) (k : b.grownBy c x) : a.grownBy c x :=
  ⟨k.os.trans h.os, k.tape.trans h.tape, k.output.trans h.output, Nat.le_trans h.size k.size, fun i hi hx => (k.block i (Nat.lt_of_lt_of_le hi h.size) hx).trans (h.block i hi hx)⟩
theorem below_grown {a b : World} (h : Below a.heap.size a b) (x : Option Nat) : a.grownBy b x := ⟨h.os, h.tape, h.output, h.size, fun k hk _ => h.block k hk⟩

set_option maxHeartbeats 2000000 in
set_option maxRecDepth 100000 in
theorem hand_c (b bo bm c u : Nat) (M : Option Addr) (rs : List Raw) (L : List Lot) (l : Lot) (w : World) (h : SchedAt w b bo bm M c rs L u) (hl : L[u]? = some l) :
    Calls Try.prog 101 #[.pointer (some ⟨bo, 0, none⟩), .pointer (some ⟨bm, 0, none⟩)] w fun e w' => ∃ A k c', e = .returned (.agg #[.int .i64 l.1, .slice A k c']) ∧
      (Fs w' A k l.2 ∧ k ≤ c' ∧ (A = none → k = 0 ∧ c' = 0) ∧ k ≤ 17592186044300 ∧ (-9223372036854775808 ≤ l.1 ∧ l.1 ≤ 9223372036854775807)) ∧ SchedAt w' b bo bm M c rs L (u + 1) ∧ w.grownBy w' (some b) := by
  have hu : u < L.length := (List.getElem?_eq_some_iff.1 hl).1
  have HH := Lib.hid h
  have hsm := h.small
  obtain ⟨n, hn⟩ : ∃ n, L.length = n := ⟨_, rfl⟩
  obtain ⟨r, hr⟩ : ∃ r, rs[u]? = some r := ⟨_, List.getElem?_eq_getElem (by rw [h.lots.len]; exact hu)⟩
  have c0 : w.cell? ⟨bo, 0, none⟩ = some (.pointer (some ⟨b, 0, none⟩)) := by rw [h.out.cell]; rfl
  have c1 : w.cell? ⟨b, 1, none⟩ = some (.int .i64 u) := by rw [h.obj.cell]; rfl
  have f1 := h.obj.frozen 1
  have c2 : w.cell? ⟨bm, 0, none⟩ = some (.slice M n c) := by rw [h.mine.cell, ← hn]; rfl
  have hlr := rawCells_len rs
  obtain ⟨ad, hM, hc⟩ := h.cells (by rw [rawCells_len, h.lots.len]; omega)
  obtain ⟨g, hg, hfar⟩ := h.far ad hM
  subst hg
  have c3 : w.cell? ⟨g, u * 2, none⟩ = some (.int .i64 r.p) := by
    rw [← add_zero, hc _ (by rw [rawCells_len, h.lots.len]; omega), Nat.mul_comm, rawCells_p rs u r hr]
  have c4 : w.cell? ⟨g, u * 2 + 1, none⟩ = some (.slice r.A r.k r.c) := by
    rw [← add_zero, hc _ (by rw [rawCells_len, h.lots.len]; omega), Nat.mul_comm, rawCells_s rs u r hr]; rfl
  have HP := Lib.hid (h.lots.p u r l hr hl)
  have HW := Lib.hid (h.lots.ws u r l hr hl)
  have hb : b < w.heap.size := h.obj.lt
  have ho := h.no
  have hm := h.nm
  have e0 : (u : Int) ≠ (n : Int) := by omega
  have HN := Lib.hid hn
  rw [hn] at hu hsm
  subst hM
  clear h hl hr hc hn hlr
  go_enter Try.func101, Try.ntmps101
  go_wp2_with fail
  have hA : Below w.heap.size w (w.alloc (.cells #[.int .i64 0, .slice none 0 0] 52)) := (Below.refl _ _).alloc (Nat.le_refl _) _
  have hR := Row.new w 52 [.int .i64 0, .slice none 0 0]
  change Row (w.alloc (.cells #[.int .i64 0, .slice none 0 0] 52)) _ _ _ at hR
  have lo := cell_lt c0
  have lm := cell_lt c2
  have l3 := cell_lt c3
  generalize w.alloc (.cells #[.int .i64 0, .slice none 0 0] 52) = w1 at *
  rw [← hA.cell (p := ⟨bo, 0, none⟩) lo] at c0
  rw [← hA.cell (p := ⟨b, 1, none⟩) hb] at c1
  rw [← hA.frozen (p := ⟨b, 1, none⟩) hb] at f1
  rw [← hA.cell (p := ⟨bm, 0, none⟩) lm] at c2
  rw [← hA.cell (p := ⟨g, u * 2, none⟩) l3] at c3
  rw [← hA.cell (p := ⟨g, u * 2 + 1, none⟩) l3] at c4
  have r0 : w1.cell? ⟨w.heap.size, 0, none⟩ = some (.int .i64 0) := by rw [hR.cell]; rfl
  have r1 : w1.cell? ⟨w.heap.size, 1, none⟩ = some (.slice none 0 0) := by rw [hR.cell]; rfl
  have g0 := hR.frozen 0
  have g1 := hR.frozen 1
  obtain ⟨z, hz⟩ : ∃ z, w.heap.size = z := ⟨_, rfl⟩
  rw [hz] at lo lm l3 hb r0 r1 g0 g1 ⊢
  have HZ := Lib.hid hz
  have HA := Lib.hid hA
  have HR := Lib.hid hR
  clear hz hA hR
  go_quiet (fail)
  go_wp2_with fail
  have hS : w1.grownBy ((w1.drewN nq).setCell ⟨b, 1, none⟩ (.int .i64 ((u : Int) + 1))) (some b) := grown_set _ _
  have hRz := (HR.out.drewN nq).far (p := ⟨b, 1, none⟩) (by rw [HZ.out]; show z ≠ b; omega) (.int .i64 ((u : Int) + 1))
  have hRb := ((HH.out.obj.grown HA.out).drewN nq).set 1 (.int .i64 ((u : Int) + 1))
  rw [← far_cell (p := ⟨b, 1, none⟩) (v := .int .i64 ((u : Int) + 1)) ho nq] at c0
  rw [← far_cell (p := ⟨b, 1, none⟩) (v := .int .i64 ((u : Int) + 1)) hm nq] at c2
  rw [← far_cell (p := ⟨b, 1, none⟩) (v := .int .i64 ((u : Int) + 1)) (q := ⟨g, u * 2, none⟩) hfar nq] at c3
  rw [← far_cell (p := ⟨b, 1, none⟩) (v := .int .i64 ((u : Int) + 1)) (q := ⟨g, u * 2 + 1, none⟩) hfar nq] at c4
  have c1' : ((w1.drewN nq).setCell ⟨b, 1, none⟩ (.int .i64 ((u : Int) + 1))).cell? ⟨b, 1, none⟩ = some (.int .i64 ((u : Int) + 1)) := by rw [hRb.cell]; rfl
  generalize ((w1.drewN nq).setCell ⟨b, 1, none⟩ (.int .i64 ((u : Int) + 1))) = w2 at *
  have r2 : w2.cell? ⟨z, 0, none⟩ = some (.int .i64 0) := by rw [← HZ.out, hRz.cell]; rfl
  have r3 : w2.cell? ⟨z, 1, none⟩ = some (.slice none 0 0) := by rw [← HZ.out, hRz.cell]; rfl
  have g2 : w2.frozen? ⟨z, 0, none⟩ = false := by rw [← HZ.out]; exact hRz.frozen 0
  have g3 : w2.frozen? ⟨z, 1, none⟩ = false := by rw [← HZ.out]; exact hRz.frozen 1
  have HS := Lib.hid hS
  have HRz := Lib.hid hRz
  have HRb := Lib.hid hRb
  clear hS hRz hRb c1 r0 r1 g0 g1 f1
  have hwr : IntKind.i64.wrap (u : Int) = (u : Int) := by
    rw [IntKind.wrap_i64]; omega
  have hu0 : (0 : Int) ≤ (u : Int) := by omega
  have hu1 : (u : Int) < (n : Int) := by omega
  go_still_tail 8, (by kernel_rfl)
  change wpList _ _ _ _ _ w2.drew
  go_wp2
  have hfin : Row ((w2.setCell ⟨z, 0, none⟩ (.int .i64 r.p)).setCell ⟨z, 1, none⟩ (.slice r.A r.k r.c)).drew z 52 [.int .i64 r.p, .slice r.A r.k r.c] := by
    have := (HRz.out.set 0 (.int .i64 r.p)).set 1 (.slice r.A r.k r.c)
    rw [HZ.out] at this
    exact this
  have hgz : w.grownBy ((w2.setCell ⟨z, 0, none⟩ (.int .i64 r.p)).setCell ⟨z, 1, none⟩ (.slice r.A r.k r.c)).drew (some b) := by
    refine ⟨HS.out.os.trans HA.out.os, HS.out.tape.trans HA.out.tape, HS.out.output.trans HA.out.output, ?_, fun k hk hx => ?_⟩
    · have := HS.out.size
      have := HA.out.size
      simp only [World.setCell, World.drew, Array.size_modify]
      omega
    · have hkz : k ≠ z := by have := HZ.out; omega
      exact (Below.heap_setCell (w2.setCell ⟨z, 0, none⟩ (.int .i64 r.p)) ⟨z, 1, none⟩ _ k hkz).trans ((Below.heap_setCell w2 ⟨z, 0, none⟩ _ k hkz).trans ((HS.out.block k (Nat.lt_of_lt_of_le hk HA.out.size) hx).trans (HA.out.block k hk)))
  have hob : Row ((w2.setCell ⟨z, 0, none⟩ (.int .i64 r.p)).setCell ⟨z, 1, none⟩ (.slice r.A r.k r.c)).drew b 106 [.int .i64 (L.length : Nat), .int .i64 ((u + 1 : Nat) : Int), .func (Fn.func 101) #[] #[.pointer (some ⟨bo, 0, none⟩), .pointer (some ⟨bm, 0, none⟩)]] :=
    (HRb.out.far (p := ⟨z, 0, none⟩) (by show b ≠ z; omega) _).far (p := ⟨z, 1, none⟩) (by show b ≠ z; omega) _
  have HS2 := HH.out.turn hgz (by rw [HN.out]; omega) hob
  (try simp only [Exit.inBlock, Exit.then]); refine bodyPost_ret (results_cell_row rfl _ _ z 52 #[.int .i64 r.p, .slice r.A r.k r.c] (0, 0) _ rfl hfin Try.underlying52 rfl (by kernel_rfl)) rfl ?_
  obtain ⟨w1', w2', w3', w4', w5'⟩ := HW.out
  refine ⟨r.A, r.k, r.c, by rw [HP.out.1], ⟨w1'.grown hgz (fun ad e1 e2 => w5' ad e1 (by cases e2; rfl)), w2', w3', w4', HP.out.2⟩, HS2, hgz⟩

set_option maxHeartbeats 2000000 in
set_option maxRecDepth 100000 in
theorem hand0_c (b bo bm c u : Nat) (M : Option Addr) (rs : List Raw) (L : List Lot) (w : World) (h : SchedAt w b bo bm M c rs L u) (hl : u = L.length) :
    Calls Try.prog 101 #[.pointer (some ⟨bo, 0, none⟩), .pointer (some ⟨bm, 0, none⟩)] w fun e w' => e = .returned (.agg #[.int .i64 0, .slice none 0 0]) ∧ SchedAt w' b bo bm M c rs L u ∧ w.grownBy w' (some b) := by
  subst hl
  have HH := Lib.hid h
  have hsm := h.small
  have c0 : w.cell? ⟨bo, 0, none⟩ = some (.pointer (some ⟨b, 0, none⟩)) := by rw [h.out.cell]; rfl
  have c1 : w.cell? ⟨b, 1, none⟩ = some (.int .i64 (L.length : Nat)) := by rw [h.obj.cell]; rfl
  have c2 : w.cell? ⟨bm, 0, none⟩ = some (.slice M L.length c) := by rw [h.mine.cell]; rfl
  have hb : b < w.heap.size := h.obj.lt
  clear h
  generalize hn : L.length = n at *
  go_enter Try.func101, Try.ntmps101
  go_wp2_with fail
  have hA : Below w.heap.size w (w.alloc (.cells #[.int .i64 0, .slice none 0 0] 52)) := (Below.refl _ _).alloc (Nat.le_refl _) _
  have hR := Row.new w 52 [.int .i64 0, .slice none 0 0]
  change Row (w.alloc (.cells #[.int .i64 0, .slice none 0 0] 52)) _ _ _ at hR
  have lo := cell_lt c0
  have lm := cell_lt c2
  generalize w.alloc (.cells #[.int .i64 0, .slice none 0 0] 52) = w1 at *
  rw [← hA.cell (p := ⟨bo, 0, none⟩) lo] at c0
  rw [← hA.cell (p := ⟨b, 1, none⟩) hb] at c1
  rw [← hA.cell (p := ⟨bm, 0, none⟩) lm] at c2
  have r0 : w1.cell? ⟨w.heap.size, 0, none⟩ = some (.int .i64 0) := by rw [hR.cell]; rfl
  have r1 : w1.cell? ⟨w.heap.size, 1, none⟩ = some (.slice none 0 0) := by rw [hR.cell]; rfl
  have g0 := hR.frozen 0
  have g1 := hR.frozen 1
  obtain ⟨z, hz⟩ : ∃ z, w.heap.size = z := ⟨_, rfl⟩
  rw [hz] at lo lm hb r0 r1 g0 g1 ⊢
  have HZ := Lib.hid hz
  have HA := Lib.hid hA
  have HR := Lib.hid hR
  have HN := Lib.hid hn
  clear hz hA hR hn
  go_quiet (fail)
  go_wp2
  have hfin : Row (((w1.drewN nq).setCell ⟨z, 0, none⟩ (.int .i64 0)).setCell ⟨z, 1, none⟩ (.slice none 0 0)) z 52 [.int .i64 0, .slice none 0 0] := by
    have := ((HR.out.drewN nq).set 0 (.int .i64 0)).set 1 (.slice none 0 0)
    rw [HZ.out] at this
    exact this
  have hgz : Below w.heap.size w (((w1.drewN nq).setCell ⟨z, 0, none⟩ (.int .i64 0)).setCell ⟨z, 1, none⟩ (.slice none 0 0)) :=
    ((below_drewN HA.out nq).setCell (p := ⟨z, 0, none⟩) (by show w.heap.size ≤ z; rw [HZ.out]; exact Nat.le_refl _) _).setCell (p := ⟨z, 1, none⟩) (by show w.heap.size ≤ z; rw [HZ.out]; exact Nat.le_refl _) _
  (try simp only [Exit.inBlock, Exit.then]); refine bodyPost_ret (results_cell_row rfl _ _ z 52 #[.int .i64 0, .slice none 0 0] (0, 0) _ rfl hfin Try.underlying52 rfl (by kernel_rfl)) rfl ?_
  exact ⟨rfl, HH.out.below hgz, below_grown hgz _⟩
end Go.Proofs.Ytplejggfeehbcaa
