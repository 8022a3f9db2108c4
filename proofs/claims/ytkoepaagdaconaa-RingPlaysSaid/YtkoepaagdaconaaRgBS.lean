/-
  Rings of string: Put, Take, Len, Cap.
-/
import Derived.Test.YtkoepaagdaconaaRgAS
import Derived.StillTailTactics
import Derived.Deep.DeepCutAuto
import Derived.Deep.CutBlock
namespace Go.Proofs.Ytkoepaagdaconaa.RS
open Go.RowKit
set_option linter.unusedSimpArgs false
attribute [local go_sem ↓] Go.wp_at_zero Go.wp_at_succ

theorem putNil_c (x : ByteArray) (w : World) : Calls Try.prog 9 #[.pointer none, (.string x)] w fun e w' => e = .returned (.int .i64 1) ∧ w = w' := by
  go_enter Try.func9, Try.ntmps9
  go_wp2
  go_ret
  exact ⟨rfl, rfl⟩

set_option maxHeartbeats 2000000 in
set_option maxRecDepth 100000 in
theorem put_c (b g n : Nat) (q : List Value) (x : ByteArray) (w : World) (h : Ring w 61 9 b g n q) (hn : n ≤ 100) (hq : q.length < n) :
    Calls Try.prog 9 #[.pointer (some ⟨b, 0, none⟩), (.string x)] w fun e w' => e = .returned (.int .i64 0) ∧ Ring w' 61 9 b g n (q ++ [(.string x)]) ∧ But (fun k => k = b ∨ k = g) w w' := by
  obtain ⟨f, vs, h⟩ := h
  have HH := Lib.hid h
  have hf := h.first
  have hne := h.ne
  have c0 : w.cell? ⟨b, 0, none⟩ = some (.slice (some ⟨g, 0, none⟩) n n) := by rw [h.obj.cell]; rfl
  have c1 : w.cell? ⟨b, 1, none⟩ = some (.int .i64 f) := by rw [h.obj.cell]; rfl
  have c2 : w.cell? ⟨b, 2, none⟩ = some (.int .i64 (q.length : Nat)) := by rw [h.obj.cell]; rfl
  have f2 := h.obj.frozen 2
  obtain ⟨m, hm⟩ : ∃ m, q.length = m := ⟨_, rfl⟩
  rw [hm] at c2 hq
  obtain ⟨p, hp⟩ : ∃ p, (f + m) % n = p := ⟨_, rfl⟩
  have hpn : p < n := by rw [← hp]; exact Nat.mod_lt _ (by omega)
  have cg : ∃ v, w.cell? ⟨g, p, none⟩ = some v := ⟨vs[p]'(by rw [h.len]; exact hpn), by rw [h.room.cell]; exact List.getElem?_eq_getElem _⟩
  obtain ⟨v0, cg⟩ := cg
  have fg := h.room.frozen p
  have HP := Lib.hid hp
  have HM := Lib.hid hm
  have CP := Lib.hid (fun d => place_c b g n f m (w.drewN d) (show w.cell? _ = _ from c0) (show w.cell? _ = _ from c1) (by omega) hn (by omega) (by omega))
  rw [hp] at CP
  have e0 : ((m : Int) == (n : Int)) = false := beq_eq_false_iff_ne.2 (by omega)
  have p0 : (0 : Int) ≤ (p : Int) := by omega
  have p1 : (p : Int) < (n : Int) := by omega
  clear h hp hm
  go_enter Try.func9, Try.ntmps9
  go_wp2_with fail
  go_quiet (fail)
  go_wp2_with fail
  go_region_held3 (fun w' => w'.cell? ⟨b, 0, none⟩ = some (.slice (some ⟨g, 0, none⟩) n n) ∧ w'.cell? ⟨b, 2, none⟩ = some (.int .i64 m)) (first | go_keep | exact ⟨(far_cell (p := ⟨g, p, none⟩) (q := ⟨b, 0, none⟩) hne _).trans c0, (far_cell (p := ⟨g, p, none⟩) (q := ⟨b, 2, none⟩) hne _).trans c2⟩) ((go_at_call 25; refine (CP.out _).mono ?_; rintro e w1 ⟨rfl, d, rfl⟩))
  go_wp2
  go_ret
  have hpe : (f + q.length) % n = p := by rw [HM.out]; exact HP.out
  refine ⟨rfl, ⟨f, _, HH.out.put (by rw [HM.out]; exact hq) (.string x) ?_ ?_⟩, ?_⟩
  · rw [hpe]
    exact ((HH.out.room.drewN _).set p (.string x)).far (p := ⟨b, 2, none⟩) (Ne.symm hne) _
  · have := ((HH.out.obj.drewN (nq + 1 + d)).far (p := ⟨g, p, none⟩) hne (.string x)).set 2 (.int .i64 ((q.length : Nat) + 1))
    rw [HM.out] at this ⊢
    exact this
  · exact (((But.refl _ _).drewN _).set ⟨g, p, none⟩ _ (.inr rfl)).set ⟨b, 2, none⟩ _ (.inl rfl)
set_option maxHeartbeats 2000000 in
set_option maxRecDepth 100000 in
theorem putFull_c (b g n : Nat) (q : List Value) (x : ByteArray) (w : World) (h : Ring w 61 9 b g n q) (hq : q.length = n) :
    Calls Try.prog 9 #[.pointer (some ⟨b, 0, none⟩), (.string x)] w fun e w' => e = .returned (.int .i64 121) ∧ ∃ d, w' = w.drewN d := by
  obtain ⟨f, vs, h⟩ := h
  have c0 : w.cell? ⟨b, 0, none⟩ = some (.slice (some ⟨g, 0, none⟩) n n) := by rw [h.obj.cell]; rfl
  have c2 : w.cell? ⟨b, 2, none⟩ = some (.int .i64 (n : Nat)) := by rw [h.obj.cell, ← hq]; rfl
  have e0 : ((n : Int) == (n : Int)) = true := beq_iff_eq.2 rfl
  clear h hq
  go_enter Try.func9, Try.ntmps9
  go_wp2_with fail
  go_quiet (fail)
  go_wp2
  go_ret
  exact ⟨rfl, _, rfl⟩

theorem takeNil_c (w : World) : Calls Try.prog 11 #[.pointer none] w fun e w' => e = .returned (.tuple #[.string ⟨#[]⟩, .int .i64 1]) ∧ w = w' := by
  go_enter Try.func11, Try.ntmps11
  go_wp2
  go_ret2
  exact ⟨rfl, rfl⟩
set_option maxHeartbeats 2000000 in
theorem takeEmpty_c (b g n : Nat) (w : World) (h : Ring w 61 9 b g n []) :
    Calls Try.prog 11 #[.pointer (some ⟨b, 0, none⟩)] w fun e w' => e = .returned (.tuple #[.string ⟨#[]⟩, .int .i64 122]) ∧ w = w' := by
  obtain ⟨f, vs, h⟩ := h
  have c2 : w.cell? ⟨b, 2, none⟩ = some (.int .i64 0) := by rw [h.obj.cell]; rfl
  clear h
  go_enter Try.func11, Try.ntmps11
  go_wp2
  go_ret2
  exact ⟨rfl, rfl⟩
set_option maxHeartbeats 2000000 in
set_option maxRecDepth 100000 in
theorem take_c (b g n : Nat) (q : List Value) (x : ByteArray) (w : World) (h : Ring w 61 9 b g n ((.string x) :: q)) (hn : n ≤ 100) :
    Calls Try.prog 11 #[.pointer (some ⟨b, 0, none⟩)] w fun e w' => e = .returned (.tuple #[(.string x), .int .i64 0]) ∧ Ring w' 61 9 b g n q ∧ But (fun k => k = b ∨ k = g) w w' := by
  obtain ⟨f, vs, h⟩ := h
  have HH := Lib.hid h
  have hne := h.ne
  have hfew : q.length + 1 ≤ n := h.few
  have hf : f < n := by have := h.first; omega
  have c0 : w.cell? ⟨b, 0, none⟩ = some (.slice (some ⟨g, 0, none⟩) n n) := by rw [h.obj.cell]; rfl
  have c1 : w.cell? ⟨b, 1, none⟩ = some (.int .i64 f) := by rw [h.obj.cell]; rfl
  have c2 : w.cell? ⟨b, 2, none⟩ = some (.int .i64 ((q.length + 1 : Nat))) := by rw [h.obj.cell]; rfl
  have f1 := h.obj.frozen 1
  have f2 := h.obj.frozen 2
  have cg : w.cell? ⟨g, f, none⟩ = some (.string x) := h.head
  have fg := h.room.frozen f
  obtain ⟨m, hm⟩ : ∃ m, q.length = m := ⟨_, rfl⟩
  rw [hm] at c2 hfew
  have e0 : (((m + 1 : Nat) : Int) == 0) = false := beq_eq_false_iff_ne.2 (by omega)
  have HM := Lib.hid hm
  obtain ⟨p, hp⟩ : ∃ p, (f + 1) % n = p := ⟨_, rfl⟩
  have hpn : p < n := by rw [← hp]; exact Nat.mod_lt _ (by omega)
  have HP := Lib.hid hp
  have f0 : (0 : Int) ≤ (f : Int) := by omega
  have f3 : (f : Int) < (n : Int) := by omega
  clear h hm hp
  go_enter Try.func11, Try.ntmps11
  go_wp2_with fail
  go_quiet (fail)
  go_wp2_with fail
  go_region_held3 (fun w' => w'.cell? ⟨b, 0, none⟩ = some (.slice (some ⟨g, 0, none⟩) n n) ∧ w'.cell? ⟨b, 1, none⟩ = some (.int .i64 f)) (first | go_keep | exact ⟨(far_cell (p := ⟨g, f, none⟩) (q := ⟨b, 0, none⟩) hne _).trans c0, (far_cell (p := ⟨g, f, none⟩) (q := ⟨b, 1, none⟩) hne _).trans c1⟩) (fail)
  have hS : But (fun k => k = b ∨ k = g) w ((w.drewN (nq + 1)).setCell ⟨g, f, none⟩ (.string ⟨#[]⟩)) := ((But.refl _ _).drewN _).set ⟨g, f, none⟩ _ (.inr rfl)
  have hRg := (HH.out.room.drewN (nq + 1)).set f (.string ⟨#[]⟩)
  have hRb := (HH.out.obj.drewN (nq + 1)).far (p := ⟨g, f, none⟩) hne (.string ⟨#[]⟩)
  replace c0 := (far_cell (w := w) (p := ⟨g, f, none⟩) (q := ⟨b, 0, none⟩) (v := .string ⟨#[]⟩) hne (nq + 1)).trans c0
  replace c1 := (far_cell (w := w) (p := ⟨g, f, none⟩) (q := ⟨b, 1, none⟩) (v := .string ⟨#[]⟩) hne (nq + 1)).trans c1
  replace c2 := (far_cell (w := w) (p := ⟨g, f, none⟩) (q := ⟨b, 2, none⟩) (v := .string ⟨#[]⟩) hne (nq + 1)).trans c2
  generalize (w.drewN (nq + 1)).setCell ⟨g, f, none⟩ (.string ⟨#[]⟩) = w2 at *
  replace f1 := hRb.frozen 1
  replace f2 := hRb.frozen 2
  have CP := Lib.hid (place_c b g n f 1 w2 c0 c1 (by omega) hn (by omega) (by omega))
  rw [HP.out] at CP
  have HS := Lib.hid hS
  have HRg := Lib.hid hRg
  have HRb := Lib.hid hRb
  clear hS hRg hRb cg fg
  go_wp2_with (go_at_call 25; refine CP.out.mono ?_; rintro e w3 ⟨rfl, d, rfl⟩)
  go_ret2
  refine ⟨rfl, ⟨(f + 1) % n, vs.set f (.string ⟨#[]⟩), HH.out.take (.string ⟨#[]⟩) ?_ ?_⟩, ?_⟩
  · exact ((HRg.out.drewN d).far (p := ⟨b, 1, none⟩) (Ne.symm hne) _).far (p := ⟨b, 2, none⟩) (Ne.symm hne) _
  · have := ((HRb.out.drewN d).set 1 (.int .i64 (p : Nat))).set 2 (.int .i64 (m : Nat))
    rw [HP.out, HM.out]
    exact this
  · exact ((HS.out.drewN d).set ⟨b, 1, none⟩ _ (.inl rfl)).set ⟨b, 2, none⟩ _ (.inl rfl)

theorem lenNil_c (w : World) : Calls Try.prog 12 #[.pointer none] w fun e w' => e = .returned (.int .i64 0) ∧ w = w' := by
  go_enter Try.func12, Try.ntmps12
  go_wp2
  go_ret
  exact ⟨rfl, rfl⟩
theorem len_c (b g n : Nat) (q : List Value) (w : World) (h : Ring w 61 9 b g n q) : Calls Try.prog 12 #[.pointer (some ⟨b, 0, none⟩)] w fun e w' => e = .returned (.int .i64 (q.length : Nat)) ∧ w = w' := by
  obtain ⟨f, vs, h⟩ := h
  have c2 : w.cell? ⟨b, 2, none⟩ = some (.int .i64 (q.length : Nat)) := by rw [h.obj.cell]; rfl
  clear h
  go_enter Try.func12, Try.ntmps12
  go_wp2
  go_ret
  exact ⟨rfl, rfl⟩
end Go.Proofs.Ytkoepaagdaconaa.RS
