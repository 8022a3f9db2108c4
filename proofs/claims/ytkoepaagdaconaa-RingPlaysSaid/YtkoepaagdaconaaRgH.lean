/-
  The walk of RingNil: no ring.
-/
import Derived.Test.YtkoepaagdaconaaRgG
import Derived.Shelf.Abstract
namespace Go.Proofs.Ytkoepaagdaconaa
open Go.RowKit Go.Shelf
set_option linter.unusedSimpArgs false
attribute [local go_sem] Oper.semAt_some

/-- no ring: the iterator calls nobody -/
theorem nil_stops (N B : Nat) (S : Nat → Prop) (w : World) (hc : w.cell? ⟨B, 0, none⟩ = some (.pointer none)) :
    SeqStopsK Fence.wide (N + 1) Try.prog 27 #[.pointer (some ⟨B, 0, none⟩)] (fun x : Int => #[.int .i64 x]) (KeptBut S) (· = []) (fun _ => False) 0 w := by
  intro l J Jx W hW hJ hJx hY h0
  have hcW := (hW.cell (p := ⟨B, 0, none⟩) (cell_lt hc)).trans hc
  have H0 := Lib.hid h0
  clear hY hJ hJx hW h0 hc
  show CallsIn Fence.wide (N + 1) Try.prog 27 #[.func (.yield l) #[] #[], .pointer (some ⟨B, 0, none⟩)] W _
  refine callsIn_of_wp Try.func27 rfl trivial ?_ rfl
  simp only [Try.ntmps27, List.size_toArray, List.length_cons, List.length_nil, Nat.reduceAdd, Nat.reduceSub, Array.replicate_succ, Array.replicate_zero, List.push_toArray, List.append_toArray, List.nil_append, List.cons_append]
  gi_wp2
  refine bodyPost_ret (results_none rfl _ _ _) rfl ?_
  exact ⟨⟨_, rfl⟩, .inl ⟨[], rfl, H0.out⟩⟩

theorem keptBut_t {S : Nat → Prop} {A B C : World} (h : KeptBut S A B) (k : KeptBut S B C) : KeptBut S A C := fun x e vs hr hs => k x e vs (h x e vs hr hs) hs
theorem keptBut_b {S : Nat → Prop} {w : World} (W : World) (l : Nat) (o o' : Obj) (_ : w.heap.size ≤ l) (h : W.heap[l]? = some o) (ho : o.isCells = false) (_ : o.isWalk = false) : KeptBut S W (W.putObj l o') := fun k e vs hr _ => by
  unfold Row at *
  rw [World.putObj_heap_other (fun e => by subst e; rw [h] at hr; cases hr; cases ho)]
  exact hr
theorem row_own {β : Type} (k e : Nat) (f : β → List Value) : Own (fun (s : β) W => Row W k e (f s)) := fun s A B row hs hg hr => by
  refine (hg.block k hs.lt (fun e' => ?_)).trans hs
  obtain ⟨o, ho, hc⟩ := hr k e'.symm
  unfold Row at hs
  rw [hs] at ho
  cases ho
  cases hc

set_option maxHeartbeats 4000000 in
set_option maxRecDepth 100000 in
theorem ringNil_walk (x : Int) (w : World) (_hx : (Lit.int .i64 x).wf = true) : Calls Try.prog 6 #[.int .i64 x] w fun e w' => e = .returned (.bool true) ∧ Below w.heap.size w w' := by
  refine (callsIn_wide (n := 9)).1 ?_
  refine callsIn_of_wp_marks Try.func6 rfl trivial ?_ rfl
  simp only [Try.ntmps6, List.size_toArray, List.length_cons, List.length_nil, Nat.reduceAdd, Nat.reduceSub, Array.replicate_succ, Array.replicate_zero, List.push_toArray, List.append_toArray, List.nil_append, List.cons_append]
  have hfn := run_eql_func_nil
  refine wpIn_wide.2 ?_
  go_wp2_with (first
    | (go_at_call 7; refine (awake12_c _).mono ?_; rintro e w1 ⟨rfl, hb1⟩; have HB1 := Lib.hid hb1; clear hb1)
    | (go_at_call 14; refine (RI.putNil_c _ _).mono ?_; rintro e w2 ⟨rfl, rfl⟩)
    | (go_at_call 16; refine (RI.takeNil_c _).mono ?_; rintro e w2 ⟨rfl, rfl⟩)
    | (go_at_call 18; refine (RI.atNil_c _ _).mono ?_; rintro e w2 ⟨rfl, rfl⟩)
    | (go_at_call 24; refine (all_c none _).mono ?_; rintro e w2 ⟨rfl, rfl⟩))
  have hs1 : (w1.alloc (.cells #[.pointer none] 35)).heap.size = w1.heap.size + 1 := by show (w1.heap.push _).size = _; rw [Array.size_push]
  have hRB : Row ((w1.alloc (.cells #[.pointer none] 35)).alloc (.cells #[.bool true] 4)) w1.heap.size 35 [.pointer none] := (Row.new w1 _ [_]).alloc _
  have hRN : Row ((w1.alloc (.cells #[.pointer none] 35)).alloc (.cells #[.bool true] 4)) (w1.heap.size + 1) 4 [.bool true] := by
    have := Row.new (w1.alloc (.cells #[.pointer none] 35)) 4 [.bool true]
    rw [hs1] at this
    exact this
  have hB2 : Below w.heap.size w ((w1.alloc (.cells #[.pointer none] 35)).alloc (.cells #[.bool true] 4)) := (HB1.out.alloc HB1.out.size _).alloc (by rw [hs1]; have := HB1.out.size; omega) _
  generalize (w1.alloc (.cells #[.pointer none] 35)).alloc (.cells #[.bool true] 4) = w2 at *
  have cB : w2.cell? ⟨w1.heap.size, 0, none⟩ = some (.pointer none) := by rw [hRB.cell]; rfl
  have HB2 := Lib.hid hB2
  have HRN := Lib.hid hRN
  clear hs1 hB2 hRN hRB
  refine (wpIn_wide (n := 9)).1 ?_
  refine wpIn_rangeFunc_ownF (α := Int) rfl (by omega) (gf := 27) (lb := #[.pointer (some ⟨w1.heap.size, 0, none⟩)]) rfl trivial (enters_of Try.func27 (by kernel_rfl) rfl)
    (nil_stops 7 w1.heap.size (fun _ => False) w2 cB) keptBut_t keptBut_b (Below.refl _ _) (fun _ => rfl)
    (fun _ W => Row W (w1.heap.size + 1) 4 [.bool true] ∧ Below w.heap.size w W) (fun _ _ _ => False)
    (OwnFrom.and (Own.from (row_own _ _ (fun _ => _)) _) (ownFrom_below (Nat.le_refl _) HB2.out.size)) (fun _ _ _ _ _ hs _ _ => hs) ⟨HRN.out, HB2.out⟩ ?a1 ?assign ?body ?done ?stop
  case assign =>
    intro l x W K hK
    have HK := Lib.hid hK
    clear hK
    gi_wp2
    exact HK.out
  case body =>
    intro l pre x W _ h
    exact absurd h (Nat.not_lt_zero _)
  case stop =>
    rintro D c pre W _ _ h _
    exact h.elim
  case done =>
    rintro D ys W hD hys ⟨hr, hB⟩ hK
    have cN : W.cell? ⟨w1.heap.size + 1, 0, none⟩ = some (.bool true) := by rw [hr.cell]; rfl
    have HB := Lib.hid hB
    have HK := Lib.hid hK
    have HD := Lib.hid hD
    clear hys hB hK hD hr
    go_wp2_with (first
      | (go_at_call 21; refine (RI.lenNil_c _).mono ?_; rintro e w3 ⟨rfl, rfl⟩)
      | (go_at_call 23; refine (RI.capNil_c _).mono ?_; rintro e w3 ⟨rfl, rfl⟩))

    refine ⟨by simp, .inl ⟨_, _, rfl, run_takeDeferred HK.out, ?_⟩⟩
    exact ⟨_, results_tmp rfl _ _ _, rfl, HB.out.trans (belowK_b (w := w2) HB2.out.size W D _ _ HD.out HK.out rfl rfl)⟩
end Go.Proofs.Ytkoepaagdaconaa
