/-
  Put of a book: what is refused.
-/
import Derived.Test.YtkdiibgjkipdnaaWqI
namespace Go.Proofs.Ytkdiibgjkipdnaa
open Go.RowKit Go.Maps
set_option linter.unusedSimpArgs false

/-- how Put begins -/
structure PutIn (w w1 : World) (k : Key) (hs hg vn vs vg : Int) : Prop where
  below : Below w.heap.size w w1
  at_ : Row w1 w.heap.size 60 [.int .u32 k.s, .int .u32 k.g, .int .i64 k.d]
  who : Row w1 (w.heap.size + 1) 35 [.int .u32 hs, .int .u32 hg]
  v : Row w1 (w.heap.size + 2) 43 [.int .i64 vn, .int .u32 vs, .int .u32 vg]
  res : Row w1 (w.heap.size + 3) 35 [.int .u32 0, .int .u32 0]
theorem PutIn.made (w : World) (k : Key) (hs hg vn vs vg : Int) : PutIn w ((((w.alloc (.cells #[.int .u32 k.s, .int .u32 k.g, .int .i64 k.d] 60)).alloc (.cells #[.int .u32 hs, .int .u32 hg] 35)).alloc (.cells #[.int .i64 vn, .int .u32 vs, .int .u32 vg] 43)).alloc (.cells #[.int .u32 0, .int .u32 0] 35)) k hs hg vn vs vg := by
  have e1 : (w.alloc (.cells #[.int .u32 k.s, .int .u32 k.g, .int .i64 k.d] 60)).heap.size = w.heap.size + 1 := by simp
  have e2 : ((w.alloc (.cells #[.int .u32 k.s, .int .u32 k.g, .int .i64 k.d] 60)).alloc (.cells #[.int .u32 hs, .int .u32 hg] 35)).heap.size = w.heap.size + 2 := by simp
  have e3 : (((w.alloc (.cells #[.int .u32 k.s, .int .u32 k.g, .int .i64 k.d] 60)).alloc (.cells #[.int .u32 hs, .int .u32 hg] 35)).alloc (.cells #[.int .i64 vn, .int .u32 vs, .int .u32 vg] 43)).heap.size = w.heap.size + 3 := by simp
  refine ⟨?_, ?_, ?_, ?_, ?_⟩
  · exact ((((Below.refl _ _).alloc (Nat.le_refl _) _).alloc (by omega) _).alloc (by omega) _).alloc (by omega) _
  · exact (((Row.new w 60 [.int .u32 k.s, .int .u32 k.g, .int .i64 k.d]).alloc _).alloc _).alloc _
  · rw [← e1]; exact ((Row.new _ 35 [.int .u32 hs, .int .u32 hg]).alloc _).alloc _
  · rw [← e2]; exact (Row.new _ 43 [.int .i64 vn, .int .u32 vs, .int .u32 vg]).alloc _
  · rw [← e3]; exact Row.new _ 35 [.int .u32 0, .int .u32 0]
theorem Row.store2 {w : World} {b e : Nat} {x y a c : Value} (h : Row w b e [x, y]) : Row ((w.setCell ⟨b, 0, none⟩ a).setCell ⟨b, 1, none⟩ c) b e [a, c] := (h.set 0 a).set 1 c
theorem below_store2 {B : Nat} {a w : World} {b : Nat} (h : Below B a w) (hb : B ≤ b) (x y : Value) : Below B a ((w.setCell ⟨b, 0, none⟩ x).setCell ⟨b, 1, none⟩ y) := (h.setCell (p := ⟨b, 0, none⟩) hb _).setCell (p := ⟨b, 1, none⟩) hb _
def putV (s g e : Int) : Value := .tuple #[.agg #[.int .u32 s, .int .u32 g], .int .i64 e]
set_option maxHeartbeats 4000000 in
set_option maxRecDepth 100000 in
theorem putZero_c (bp : Nat) (k : Key) (hs hg arm vn vs vg : Int) (w : World) (hsm : sameH hs hg 0 0 = true) :
    Calls Try.prog 23 #[.pointer (some ⟨bp, 0, none⟩), .agg #[.int .u32 k.s, .int .u32 k.g, .int .i64 k.d], .agg #[.int .u32 hs, .int .u32 hg], .int .i64 arm, .agg #[.int .i64 vn, .int .u32 vs, .int .u32 vg]] w fun e w' =>
      e = .returned (putV 0 0 111) ∧ Below w.heap.size w w' := by
  have H1 := Lib.hid (PutIn.made w k hs hg vn vs vg)
  have c0 := H1.out.who.cell 0
  have c1 := H1.out.who.cell 1
  have f0 := H1.out.res.frozen 0
  have f1 := H1.out.res.frozen 1
  have d0 := H1.out.res.cell 0
  have d1 := H1.out.res.cell 1
  dsimp only [List.getElem?_cons_zero, List.getElem?_cons_succ] at c0 c1 d0 d1
  have e1 := fun w => run_eql_handle hs hg 0 0 w
  rw [hsm] at e1
  have hzw : w.heap.size ≤ w.heap.size + 3 := by omega
  clear hsm
  go_enter Try.func23, Try.ntmps23
  go_wp2_with fail
  generalize ((((w.alloc (.cells #[.int .u32 k.s, .int .u32 k.g, .int .i64 k.d] 60)).alloc (.cells #[.int .u32 hs, .int .u32 hg] 35)).alloc (.cells #[.int .i64 vn, .int .u32 vs, .int .u32 vg] 43)).alloc (.cells #[.int .u32 0, .int .u32 0] 35)) = w1 at *
  have hfin := H1.out.res
  have hbw := H1.out.below
  (try simp only [Exit.inBlock, Exit.then]); refine bodyPost_ret (results_cell2_row rfl _ _ (w.heap.size + 3) 35 #[.int .u32 0, .int .u32 0] (0, 0) _ rfl hfin Try.underlying35 rfl (by kernel_rfl)) rfl ?_
  exact ⟨rfl, hbw⟩
set_option maxHeartbeats 4000000 in
set_option maxRecDepth 100000 in
theorem putSide_c (bp : Nat) (k : Key) (hs hg arm vn vs vg : Int) (w : World) (hsm : sameH hs hg 0 0 = false) (hk : k.d < 1 ∨ 4 < k.d) :
    Calls Try.prog 23 #[.pointer (some ⟨bp, 0, none⟩), .agg #[.int .u32 k.s, .int .u32 k.g, .int .i64 k.d], .agg #[.int .u32 hs, .int .u32 hg], .int .i64 arm, .agg #[.int .i64 vn, .int .u32 vs, .int .u32 vg]] w fun e w' =>
      e = .returned (putV 0 0 112) ∧ Below w.heap.size w w' := by
  have H1 := Lib.hid (PutIn.made w k hs hg vn vs vg)
  have c0 := H1.out.who.cell 0
  have c1 := H1.out.who.cell 1
  have f0 := H1.out.res.frozen 0
  have f1 := H1.out.res.frozen 1
  have d0 := H1.out.res.cell 0
  have d1 := H1.out.res.cell 1
  have b2 := H1.out.at_.cell 2
  dsimp only [List.getElem?_cons_zero, List.getElem?_cons_succ] at c0 c1 d0 d1 b2
  have e1 := fun w => run_eql_handle hs hg 0 0 w
  rw [hsm] at e1
  have hzw : w.heap.size ≤ w.heap.size + 3 := by omega
  clear hsm
  by_cases hk1 : k.d < 1
  · have t1 : decide (k.d < 1) = true := decide_eq_true hk1
    go_enter Try.func23, Try.ntmps23
    go_wp2_with fail
    generalize ((((w.alloc (.cells #[.int .u32 k.s, .int .u32 k.g, .int .i64 k.d] 60)).alloc (.cells #[.int .u32 hs, .int .u32 hg] 35)).alloc (.cells #[.int .i64 vn, .int .u32 vs, .int .u32 vg] 43)).alloc (.cells #[.int .u32 0, .int .u32 0] 35)) = w1 at *
    have hfin := H1.out.res
    have hbw := H1.out.below
    (try simp only [Exit.inBlock, Exit.then]); refine bodyPost_ret (results_cell2_row rfl _ _ (w.heap.size + 3) 35 #[.int .u32 0, .int .u32 0] (0, 0) _ rfl hfin Try.underlying35 rfl (by kernel_rfl)) rfl ?_
    exact ⟨rfl, hbw⟩
  · have t1 : decide (k.d < 1) = false := decide_eq_false hk1
    have t2 : decide (4 < k.d) = true := decide_eq_true (by omega)
    go_enter Try.func23, Try.ntmps23
    go_wp2_with fail
    generalize ((((w.alloc (.cells #[.int .u32 k.s, .int .u32 k.g, .int .i64 k.d] 60)).alloc (.cells #[.int .u32 hs, .int .u32 hg] 35)).alloc (.cells #[.int .i64 vn, .int .u32 vs, .int .u32 vg] 43)).alloc (.cells #[.int .u32 0, .int .u32 0] 35)) = w1 at *
    have hfin := H1.out.res
    have hbw := H1.out.below
    (try simp only [Exit.inBlock, Exit.then]); refine bodyPost_ret (results_cell2_row rfl _ _ (w.heap.size + 3) 35 #[.int .u32 0, .int .u32 0] (0, 0) _ rfl hfin Try.underlying35 rfl (by kernel_rfl)) rfl ?_
    exact ⟨rfl, hbw⟩
def hits (hs hg arm : Int) (x : Nd) : Bool := sameH x.rc.hs x.rc.hg hs hg && (x.rc.arm == arm)
theorem BookAt.slot_at {w : World} {bp : Nat} {B : Bk} (h : BookAt w bp B) {x : Nd} (hx : x ∈ B.N) : ∃ i : Nat, i < B.gens.length ∧ slotOf B.N i = some x.blk := by
  obtain ⟨i, h1, h2⟩ := h.ok.slot x hx
  exact ⟨i, (List.getElem?_eq_some_iff.1 h2).1, slotOf_mem h.ok.ms hx h1⟩
set_option maxHeartbeats 4000000 in
set_option maxRecDepth 100000 in
theorem putTwice_c (bp : Nat) (B : Bk) (k : Key) (hs hg arm vn vs vg : Int) (w : World) (h : BookAt w bp B) (hsm : sameH hs hg 0 0 = false) (hk : ¬ (k.d < 1 ∨ 4 < k.d)) (x0 : Nd) (hx0 : x0 ∈ B.N) (ht0 : hits hs hg arm x0 = true) :
    Calls Try.prog 23 #[.pointer (some ⟨bp, 0, none⟩), .agg #[.int .u32 k.s, .int .u32 k.g, .int .i64 k.d], .agg #[.int .u32 hs, .int .u32 hg], .int .i64 arm, .agg #[.int .i64 vn, .int .u32 vs, .int .u32 vg]] w fun e w' =>
      e = .returned (putV 0 0 113) ∧ Below w.heap.size w w' := by
  obtain ⟨i0, hi0, hsl0⟩ := h.slot_at hx0
  have H1 := Lib.hid (PutIn.made w k hs hg vn vs vg)
  have H2 := Lib.hid (h.below H1.out.below)
  have c0 := H1.out.who.cell 0
  have c1 := H1.out.who.cell 1
  have f0 := H1.out.res.frozen 0
  have f1 := H1.out.res.frozen 1
  have d0 := H1.out.res.cell 0
  have d1 := H1.out.res.cell 1
  have b2 := H1.out.at_.cell 2
  dsimp only [List.getElem?_cons_zero, List.getElem?_cons_succ] at c0 c1 d0 d1 b2
  obtain ⟨_, k1, _⟩ := H2.out.fields
  obtain ⟨A, c, hsv, hcell⟩ := H2.out.ptrs
  have HC := Lib.hid hcell
  rw [hsv] at k1
  have hfew := h.ok.few
  obtain ⟨n, hn⟩ : ∃ n, B.gens.length = n := ⟨_, rfl⟩
  rw [hn] at HC hi0 hfew k1
  have e1 := fun w => run_eql_handle hs hg 0 0 w
  rw [hsm] at e1
  have hzw : w.heap.size ≤ w.heap.size + 3 := by omega
  have t1 : decide (k.d < 1) = false := decide_eq_false (by omega)
  have t2 : decide (4 < k.d) = false := decide_eq_false (by omega)
  have HS0 := Lib.hid hsl0
  have HT0 := Lib.hid ht0
  have HX0 := Lib.hid hx0
  clear hsm h hsv hcell hn hk hsl0 ht0 hx0
  go_enter Try.func23, Try.ntmps23
  go_wp2_with fail
  generalize ((((w.alloc (.cells #[.int .u32 k.s, .int .u32 k.g, .int .i64 k.d] 60)).alloc (.cells #[.int .u32 hs, .int .u32 hg] 35)).alloc (.cells #[.int .i64 vn, .int .u32 vs, .int .u32 vg] 43)).alloc (.cells #[.int .u32 0, .int .u32 0] 35)) = w1 at *
  clear b2
  go_loopw [42, 13] (fun x y wr => ∃ j d : Nat, j ≤ i0 ∧ x = .int .i64 j ∧ wr = w1.drewN d) (fun x _ _ => n - (intOf x).toNat)
  case atStart => exact ⟨0, 0, by omega, rfl, rfl⟩
  case round =>
    obtain ⟨j, d, hj, rfl, hwr⟩ := hrel
    have HWR := Lib.hid hwr
    have dlt : decide ((j : Int) < (n : Int)) = true := decide_eq_true (by omega)
    have j0 : (0 : Int) ≤ (j : Int) := by omega
    have hjn : j < n := by omega
    have c0 : wr.cell? ⟨w.heap.size + 1, 0, none⟩ = some (.int .u32 hs) := by rw [hwr]; exact c0
    have c1 : wr.cell? ⟨w.heap.size + 1, 1, none⟩ = some (.int .u32 hg) := by rw [hwr]; exact c1
    have HF : Hid (Row wr (w.heap.size + 3) 35 [.int .u32 0, .int .u32 0]) := Lib.hid (by rw [hwr]; exact H1.out.res.drewN d)
    have HB : Hid (Below w.heap.size w wr) := Lib.hid (by rw [hwr]; exact below_drewN H1.out.below d)
    obtain ⟨g, hA, hcell⟩ := HC.out j (slotOf B.N j) (slotsL_get hjn)
    have hcell : wr.cell? ⟨g, j, none⟩ = some (pt (slotOf B.N j)) := by rw [hwr]; exact hcell
    have HN2 : Hid (∀ e, wr.drewN e = w1.drewN (d + e)) := Lib.hid fun e => by rw [hwr, World.drewN_drewN]
    cases hso : slotOf B.N j with
    | none =>
      rw [hso] at hcell
      have hne : j ≠ i0 := fun e => by
        subst e; have := HS0.out; rw [hso] at this; cases this
      simp only [pt] at hcell
      subst hA
      clear hwr hso k1 HWR
      go_wp2_with fail
      go_quiet (fail)
      go_wp2_with fail
      go_roundw
      case rel => exact ⟨j + 1, _, by omega, by go_num, HN2.out _⟩
      case measure => simp [intOf] <;> omega
    | some b =>
      obtain ⟨x, hx, hxi, hxb⟩ := slotOf_some hso
      rw [hso] at hcell
      simp only [pt] at hcell
      have hxr := (H2.out.mem.node x hx).drewN d
      rw [← hwr] at hxr
      obtain ⟨a0, a1, a2, a3, a4, a5, a6, a7, _⟩ := Nd.at_ hxr
      rw [hxb] at a2 a3 a7
      have e2 := fun w => run_eql_handle x.rc.hs x.rc.hg hs hg w
      have hnh : hits hs hg arm x = false → j ≠ i0 := fun e e2 => by
        subst e2
        have : x = x0 := nodup_inj H2.out.ok.blks hx HX0.out (hxb.trans (Option.some.inj (hso.symm.trans HS0.out)))
        subst this
        rw [HT0.out] at e; cases e
      subst hA
      by_cases h1 : sameH x.rc.hs x.rc.hg hs hg = true
      · rw [h1] at e2
        by_cases h3 : x.rc.arm = arm
        · rw [h3] at a7
          clear hwr hso k1 HWR hnh h1 h3 hxr a0 a1 a4 a5 a6
          go_wp2_with fail
          go_quiet (fail)
          have HF3 := Lib.hid (HF.out.drewN nq)
          have HB3 := Lib.hid (below_drewN HB.out nq)
          have f0 := HF3.out.frozen 0
          have f1 := HF3.out.frozen 1
          have d0 := HF3.out.cell 0
          have d1 := HF3.out.cell 1
          dsimp only [List.getElem?_cons_zero, List.getElem?_cons_succ] at d0 d1
          clear c0 c1 hcell a2 a3 a7
          generalize wr.drewN nq = w4 at *
          go_wp2_with fail
          have hfin := HF3.out.store2 (a := .int .u32 0) (c := .int .u32 0)
          have hbw := below_store2 HB3.out hzw (.int .u32 0) (.int .u32 0)
          (try simp only [Exit.inBlock, Exit.then]); refine bodyPost_ret (results_cell2_row rfl _ _ (w.heap.size + 3) 35 #[.int .u32 0, .int .u32 0] (0, 0) _ rfl hfin Try.underlying35 rfl (by kernel_rfl)) rfl ?_
          exact ⟨rfl, hbw⟩
        · have t3 : decide (x.rc.arm = arm) = false := decide_eq_false h3
          have t4 : (x.rc.arm == arm) = false := by simpa using h3
          have hne := hnh (by unfold hits; rw [t4, Bool.and_false])
          clear hwr hso k1 HWR hnh h1 hxr a0 a1 a4 a5 a6
          go_wp2_with fail
          go_quiet (fail)
          go_wp2_with fail
          go_roundw
          case rel => exact ⟨j + 1, _, by omega, by go_num, HN2.out _⟩
          case measure => simp [intOf] <;> omega
      · have h1 : sameH x.rc.hs x.rc.hg hs hg = false := by rw [← Bool.not_eq_true]; exact h1
        have hne := hnh (by unfold hits; rw [h1, Bool.false_and])
        rw [h1] at e2
        clear hwr hso k1 HWR hnh h1 hxr a0 a1 a4 a5 a6
        go_wp2_with fail
        go_quiet (fail)
        go_wp2_with fail
        go_roundw
        case rel => exact ⟨j + 1, _, by omega, by go_num, HN2.out _⟩
        case measure => simp [intOf] <;> omega
end Go.Proofs.Ytkdiibgjkipdnaa
