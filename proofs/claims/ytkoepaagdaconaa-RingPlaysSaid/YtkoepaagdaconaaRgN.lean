/-
  The document's ring: a list of all that was put; what Len, Put, Take and At of it do.
-/
import Derived.Test.YtkoepaagdaconaaRgJ
namespace Go.Proofs.Ytkoepaagdaconaa
open Go.RowKit
set_option linter.unusedSimpArgs false

/-- the document's ring at block P: all that was put, how many were taken, its room -/
structure RefAt (w : World) (P : Nat) (A : Option Addr) (c : Nat) (all : List Int) (out room : Nat) : Prop where
  obj : Row w P 40 [.slice A all.length c, .int .i64 (out : Nat), .int .i64 (room : Nat)]
  own : w.ownsRow (P + 1) 3 1 (.slice A all.length c) all.length (ints all)
  le : out ≤ all.length
  few : all.length ≤ 5000
def Ref (w : World) (P : Nat) (all : List Int) (out room : Nat) : Prop := ∃ A c, RefAt w P A c all out room
section
variable {w w' : World} {P c out room : Nat} {A : Option Addr} {all : List Int}
theorem RefAt.but {S : Nat → Prop} (h : RefAt w P A c all out room) (hb : But S w w') (hs : ∀ k, P ≤ k → ¬ S k) : RefAt w' P A c all out room :=
  ⟨hb.row h.obj (hs P (Nat.le_refl _)), hb.owns h.own (fun k hk => hs k (by omega)), h.le, h.few⟩
theorem Ref.but {S : Nat → Prop} (h : Ref w P all out room) (hb : But S w w') (hs : ∀ k, P ≤ k → ¬ S k) : Ref w' P all out room := by
  obtain ⟨A, c, h⟩ := h
  exact ⟨A, c, h.but hb hs⟩
theorem Ref.drewN (h : Ref w P all out room) (d : Nat) : Ref (w.drewN d) P all out room := h.but ((But.refl (fun _ => False) w).drewN d) (fun _ _ h => h)
theorem Ref.below (h : Ref w P all out room) (hb : Below w.heap.size w w') : Ref w' P all out room := h.but (But.of_below hb (fun _ => False)) (fun _ _ h => h)
theorem RefAt.at_ (h : RefAt w P A c all out room) {i : Nat} (hi : i < all.length) : ∃ g, A = some ⟨g, 0, none⟩ ∧ w.cell? ⟨g, i, none⟩ = some (.int .i64 (all.getD i 0)) := by
  rcases h.own.2 with ⟨_, e2⟩ | ⟨g, cap, cur, e1, _, hh, _, _, _, htake⟩
  · omega
  · cases e1
    refine ⟨g, rfl, ?_⟩
    have hR : Row w g 3 (ints all ++ cur.toList.drop (all.length * 1)) := by
      unfold Row
      rw [hh, ← htake, List.take_append_drop]
    rw [hR.cell, List.getElem?_append_left (by rw [ints_len]; exact hi), ints_get _ _ hi]
end

set_option maxHeartbeats 1000000 in
theorem refLen_c (P : Nat) (all : List Int) (out room : Nat) (w : World) (h : Ref w P all out room) :
    Calls Try.prog 22 #[.pointer (some ⟨P, 0, none⟩)] w fun e w' => e = .returned (.int .i64 ((all.length - out : Nat) : Int)) ∧ ∃ d, w' = w.drewN d := by
  obtain ⟨A, c, h⟩ := h
  have c0 : w.cell? ⟨P, 0, none⟩ = some (.slice A all.length c) := by rw [h.obj.cell]; rfl
  have c1 : w.cell? ⟨P, 1, none⟩ = some (.int .i64 out) := by rw [h.obj.cell]; rfl
  have hle := h.le
  have hfew := h.few
  have hw : IntKind.i64.wrap ((all.length : Int) - (out : Int)) = ((all.length - out : Nat) : Int) := by rw [IntKind.wrap_i64]; omega
  clear h
  generalize all.length = n at *
  generalize hq : n - out = q at *
  go_enter Try.func22, Try.ntmps22
  go_wp2_with fail
  go_quiet (fail)
  go_wp2
  go_ret
  exact ⟨rfl, _, rfl⟩

set_option maxHeartbeats 2000000 in
set_option maxRecDepth 100000 in
theorem refPut_c (P : Nat) (all : List Int) (out room : Nat) (x : Int) (w : World) (h : Ref w P all out room) (hq : all.length - out < room) (hf : all.length < 5000) (_hr : room ≤ 1000) :
    Calls Try.prog 15 #[.pointer (some ⟨P, 0, none⟩), .int .i64 x] w fun e w' => e = .returned (.bool true) ∧ Ref w' P (all ++ [x]) out room ∧ But (fun k => P ≤ k) w w' := by
  obtain ⟨i0, hi, hz0, hz1, hz2⟩ := info_parts RI.info
  have CL := Lib.hid (fun d => refLen_c P all out room (w.drewN d) (h.drewN d))
  obtain ⟨A, c, h⟩ := h
  have HH := Lib.hid h
  have c2 : w.cell? ⟨P, 2, none⟩ = some (.int .i64 room) := by rw [h.obj.cell]; rfl
  have hle := h.le
  obtain ⟨n, hn⟩ : ∃ n, all.length = n := ⟨_, rfl⟩
  have HNL := Lib.hid hn
  have c0 : w.cell? ⟨P, 0, none⟩ = some (.slice A n c) := by rw [h.obj.cell, ← hn]; rfl
  have f0 := h.obj.frozen 0
  have hown := h.own
  rw [hn] at CL hq hf hle hown
  have HO := Lib.hid hown
  have hPl : P < w.heap.size := h.obj.lt
  have c0a : ∀ d o, ((w.drewN d).alloc o).cell? ⟨P, 0, none⟩ = some (.slice A n c) := fun d o => ((Below.refl w.heap.size (w.drewN d)).alloc (Nat.le_refl _) o).cell (p := ⟨P, 0, none⟩) hPl |>.trans c0
  obtain ⟨m, hm⟩ : ∃ m, n - out = m := ⟨_, rfl⟩
  rw [hm] at CL hq
  have hmr : ¬ (room : Int) ≤ (m : Int) := by omega
  clear h hn hm hown
  go_enter Try.func15, Try.ntmps15
  go_wp2_with fail
  go_quiet ((go_at_call 22; refine (CL.out _).mono ?_; rintro e w8 ⟨rfl, d, rfl⟩; exact ⟨rfl, _, (World.drewN_drewN _ _ _)⟩))
  go_wp2_with (first
    | (at_builtin; refine wpList_append_own _ rfl _ _ 22 rfl (P + 1) 3 i0 (.int .i64 0) 1 8 Try.underlying22 hi hz0 hz1 hz2 rfl (by decide) _ n (ints all) rfl (World.ownsRow.alloc HO.out _) ⟨w.heap.size, 0, none⟩ 1 1 [.int .i64 x] rfl rfl ?c1 ?c2 ?c3 ?c4 ?c5 ?_)
    | go_in)
  case c1 =>
    intro q u hq
    match q, hq with
    | 0, hq => simp at hq; subst hq; exact (Row.new w _ [_]).cell 0
  case c2 => intro u hu; simp at hu; subst hu; rfl
  case c3 => unfold maxLen; omega
  case c4 => omega
  case c5 => have := hPl; simp; omega
  intro v' w4 hown' hgrow _
  obtain ⟨A', c', hv⟩ := owns_form hown'
  subst hv
  have hfar : ∀ k, (Value.slice A n c).ownBlock = some k → P + 1 ≤ k := fun k hk => (HO.out.lt k hk).1
  have hb4 : But (fun k => (Value.slice A n c).ownBlock = some k) w w4 := ⟨hgrow.os, hgrow.tape, hgrow.output, Nat.le_trans (by simp [World.alloc]) hgrow.size, fun k hk hs => (hgrow.block k (by simp [World.alloc]; have : k < w.heap.size := hk; omega) (Ne.symm hs)).trans (Below.heap_alloc (w.drewN nq) _ k hk)⟩
  have hR4 := hb4.row HH.out.obj (fun e => by have := hfar _ e; omega)
  have c4 := hR4.cell 0
  have f4 := hR4.frozen 0
  have HR4 := Lib.hid hR4
  have HB4 := Lib.hid hb4
  have HO4 := Lib.hid hown'
  have HFar := Lib.hid hfar
  clear hown' hgrow hb4 hR4 hfar
  go_wp2
  go_ret
  refine ⟨rfl, ⟨A', c', ?_, ?_, by rw [List.length_append, HNL.out]; omega, by rw [List.length_append, HNL.out]; exact hf⟩, ?_⟩
  · have := HR4.out.set 0 (.slice A' (n + 1) c')
    rw [List.length_append, List.length_singleton, HNL.out]
    exact this
  · have := ((But.refl (fun k => k = P) w4).set ⟨P, 0, none⟩ (.slice A' (n + 1) c') rfl).owns HO4.out (fun k hk e => by omega)
    rw [List.length_append, List.length_singleton, HNL.out, ← ints_snoc]
    exact this
  · exact (HB4.out.weaken (fun k hk => by have := HFar.out _ hk; omega)).set _ _ (Nat.le_refl _)

set_option maxHeartbeats 2000000 in
theorem refPutFull_c (P : Nat) (all : List Int) (out room : Nat) (x : Int) (w : World) (h : Ref w P all out room) (hq : room ≤ all.length - out) :
    Calls Try.prog 15 #[.pointer (some ⟨P, 0, none⟩), .int .i64 x] w fun e w' => e = .returned (.bool false) ∧ ∃ d, w' = w.drewN d := by
  have CL := Lib.hid (fun d => refLen_c P all out room (w.drewN d) (h.drewN d))
  obtain ⟨A, c, h⟩ := h
  have c2 : w.cell? ⟨P, 2, none⟩ = some (.int .i64 room) := by rw [h.obj.cell]; rfl
  obtain ⟨m, hm⟩ : ∃ m, all.length - out = m := ⟨_, rfl⟩
  rw [hm] at CL hq
  have hmr : (room : Int) ≤ (m : Int) := by omega
  clear h hm
  go_enter Try.func15, Try.ntmps15
  go_wp2_with fail
  go_quiet ((go_at_call 22; refine (CL.out _).mono ?_; rintro e w8 ⟨rfl, d, rfl⟩; exact ⟨rfl, _, (World.drewN_drewN _ _ _)⟩))
  go_wp2
  go_ret
  exact ⟨rfl, _, rfl⟩

set_option maxHeartbeats 2000000 in
theorem refTakeEmpty_c (P : Nat) (all : List Int) (out room : Nat) (w : World) (h : Ref w P all out room) (hq : all.length - out = 0) :
    Calls Try.prog 17 #[.pointer (some ⟨P, 0, none⟩)] w fun e w' => e = .returned (.tuple #[.int .i64 0, .bool false]) ∧ ∃ d, w' = w.drewN d := by
  have CL := Lib.hid (refLen_c P all out room w h)
  rw [hq] at CL
  clear h
  go_enter Try.func17, Try.ntmps17
  go_wp2_with (go_at_call 22; refine CL.out.mono ?_; rintro e w8 ⟨rfl, d, rfl⟩)
  go_ret2
  exact ⟨rfl, d, rfl⟩

set_option maxHeartbeats 2000000 in
theorem refTake_c (P : Nat) (all : List Int) (out room : Nat) (w : World) (h : Ref w P all out room) (hq : out < all.length) :
    Calls Try.prog 17 #[.pointer (some ⟨P, 0, none⟩)] w fun e w' => e = .returned (.tuple #[.int .i64 (all.getD out 0), .bool true]) ∧ Ref w' P all (out + 1) room ∧ But (fun k => k = P) w w' := by
  have CL := Lib.hid (refLen_c P all out room w h)
  obtain ⟨A, c, h⟩ := h
  have HH := Lib.hid h
  obtain ⟨g, hA, cx⟩ := h.at_ hq
  subst hA
  have hg : g ≠ P := fun e => by have := (h.own.lt g rfl).1; omega
  generalize hx : all.getD out 0 = x at *
  have hfew := h.few
  have HQ := Lib.hid hq
  obtain ⟨n, hn⟩ : ∃ n, all.length = n := ⟨_, rfl⟩
  have c0 : w.cell? ⟨P, 0, none⟩ = some (.slice (some ⟨g, 0, none⟩) n c) := by rw [h.obj.cell, ← hn]; rfl
  have c1 : w.cell? ⟨P, 1, none⟩ = some (.int .i64 out) := by rw [h.obj.cell]; rfl
  have f1 := h.obj.frozen 1
  rw [hn] at hq hfew CL
  have q0 : (((n - out : Nat) : Int) == 0) = false := beq_eq_false_iff_ne.2 (by omega)
  generalize ((n - out : Nat) : Int) = m at *
  have HN := Lib.hid hn
  clear h hn hx
  go_enter Try.func17, Try.ntmps17
  go_wp2_with (go_at_call 22; refine CL.out.mono ?_; rintro e w8 ⟨rfl, d, rfl⟩)
  have hR5 : Row ((w.drewN d).setCell ⟨P, 1, none⟩ (.int .i64 ((out : Int) + 1))) P 40 [.slice (some ⟨g, 0, none⟩) n c, .int .i64 ((out + 1 : Nat) : Int), .int .i64 (room : Nat)] := by
    have := (HH.out.obj.drewN d).set 1 (.int .i64 ((out : Int) + 1))
    rw [HN.out] at this
    exact this
  have hb5 : But (fun k => k = P) w ((w.drewN d).setCell ⟨P, 1, none⟩ (.int .i64 ((out : Int) + 1))) := ((But.refl _ w).drewN d).set ⟨P, 1, none⟩ _ rfl
  have cx5 : ((w.drewN d).setCell ⟨P, 1, none⟩ (.int .i64 ((out : Int) + 1))).cell? ⟨g, out, none⟩ = some (.int .i64 x) := (far_cell (p := ⟨P, 1, none⟩) (q := ⟨g, out, none⟩) hg d).trans cx
  generalize (w.drewN d).setCell ⟨P, 1, none⟩ (.int .i64 ((out : Int) + 1)) = w5 at *
  have d0 : w5.cell? ⟨P, 0, none⟩ = some (.slice (some ⟨g, 0, none⟩) n c) := hR5.cell 0
  have d1 : w5.cell? ⟨P, 1, none⟩ = some (.int .i64 ((out : Int) + 1)) := hR5.cell 1
  have hw : IntKind.i64.wrap ((out : Int) + 1 - 1) = (out : Int) := by rw [IntKind.wrap_i64]; omega
  have HR5 := Lib.hid hR5
  have HB5 := Lib.hid hb5
  clear hR5 hb5 cx c0 c1 f1
  go_quiet (fail)
  go_wp2
  go_ret2
  refine ⟨rfl, ⟨some ⟨g, 0, none⟩, c, ?_, ?_, by rw [HN.out]; omega, by rw [HN.out]; omega⟩, HB5.out.drewN _⟩
  · rw [HN.out]
    exact HR5.out.drewN _
  · exact (HB5.out.drewN _).owns HH.out.own (fun k hk e => by omega)

set_option maxHeartbeats 2000000 in
theorem refAtBad_c (P : Nat) (all : List Int) (out room : Nat) (i : Int) (w : World) (h : Ref w P all out room) (hi : i < 0 ∨ ((all.length - out : Nat) : Int) ≤ i) :
    Calls Try.prog 19 #[.pointer (some ⟨P, 0, none⟩), .int .i64 i] w fun e w' => e = .returned (.tuple #[.int .i64 0, .bool false]) ∧ ∃ d, w' = w.drewN d := by
  have CL := Lib.hid (refLen_c P all out room w h)
  generalize ((all.length - out : Nat) : Int) = m at *
  clear h
  by_cases h0 : i < 0
  · clear hi
    go_enter Try.func19, Try.ntmps19
    go_wp2
    go_ret2
    exact ⟨rfl, 0, rfl⟩
  · have h1 : m ≤ i := by omega
    clear hi
    go_enter Try.func19, Try.ntmps19
    go_wp2_with (go_at_call 22; refine CL.out.mono ?_; rintro e w8 ⟨rfl, d, rfl⟩)
    go_ret2
    exact ⟨rfl, d, rfl⟩

set_option maxHeartbeats 2000000 in
theorem refAt_c (P : Nat) (all : List Int) (out room i : Nat) (w : World) (h : Ref w P all out room) (hi : out + i < all.length) :
    Calls Try.prog 19 #[.pointer (some ⟨P, 0, none⟩), .int .i64 i] w fun e w' => e = .returned (.tuple #[.int .i64 (all.getD (out + i) 0), .bool true]) ∧ ∃ d, w' = w.drewN d := by
  have CL := Lib.hid (refLen_c P all out room w h)
  obtain ⟨A, c, h⟩ := h
  obtain ⟨g, hA, cx⟩ := h.at_ hi
  subst hA
  generalize hx : all.getD (out + i) 0 = x at *
  have hfew := h.few
  obtain ⟨n, hn⟩ : ∃ n, all.length = n := ⟨_, rfl⟩
  have c0 : w.cell? ⟨P, 0, none⟩ = some (.slice (some ⟨g, 0, none⟩) n c) := by rw [h.obj.cell, ← hn]; rfl
  have c1 : w.cell? ⟨P, 1, none⟩ = some (.int .i64 out) := by rw [h.obj.cell]; rfl
  rw [hn] at hi hfew CL
  have q0 : ¬ (i : Int) < 0 := by omega
  have q1 : ¬ ((n - out : Nat) : Int) ≤ (i : Int) := by omega
  generalize ((n - out : Nat) : Int) = m at *
  have hw : IntKind.i64.wrap ((out : Int) + (i : Int)) = ((out + i : Nat) : Int) := by rw [IntKind.wrap_i64]; omega
  generalize out + i = s at *
  clear h hn hx
  go_enter Try.func19, Try.ntmps19
  go_wp2_with (go_at_call 22; refine CL.out.mono ?_; rintro e w8 ⟨rfl, d, rfl⟩)
  go_quiet (fail)
  go_wp2
  go_ret2
  exact ⟨rfl, _, (World.drewN_drewN _ _ _)⟩
end Go.Proofs.Ytkoepaagdaconaa
