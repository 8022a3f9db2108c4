/-
  Leave of a book.
-/
import Derived.Test.YtkdiibgjkipdnaaWqQ
import Derived.WalkMore
namespace Go.Proofs.Ytkdiibgjkipdnaa
open Go.RowKit Go.Maps
set_option linter.unusedSimpArgs false

/-- who is still there when the first j slots have been gone through -/
def left (N : List Nd) (hs hg : Int) (j : Nat) : List Nd := N.filter fun x => !(sameH x.rc.hs x.rc.hg hs hg && decide (x.rc.ms ≤ (j : Int)))
theorem mem_left {N : List Nd} {hs hg : Int} {j : Nat} {x : Nd} : x ∈ left N hs hg j ↔ x ∈ N ∧ (sameH x.rc.hs x.rc.hg hs hg = true → (j : Int) < x.rc.ms) := by
  unfold left
  rw [List.mem_filter]
  constructor
  · rintro ⟨h1, h2⟩
    refine ⟨h1, fun e => ?_⟩
    rw [e, Bool.true_and] at h2
    simpa using h2
  · rintro ⟨h1, h2⟩
    refine ⟨h1, ?_⟩
    cases e : sameH x.rc.hs x.rc.hg hs hg with
    | false => rfl
    | true => simpa using h2 e
theorem left_zero {bp : Nat} {B : Bk} (h : BookOk bp B) (hs hg : Int) : left B.N hs hg 0 = B.N := by
  unfold left
  rw [List.filter_eq_self]
  intro x hx
  obtain ⟨i, hi, _⟩ := h.slot x hx
  have : decide (x.rc.ms ≤ ((0 : Nat) : Int)) = false := decide_eq_false (by omega)
  rw [this, Bool.and_false]; rfl
theorem left_step_same {N : List Nd} {hs hg : Int} {j : Nat} (h : ∀ x ∈ N, x.rc.ms = (j : Int) + 1 → sameH x.rc.hs x.rc.hg hs hg = false) : left N hs hg (j + 1) = left N hs hg j := by
  unfold left
  refine List.filter_congr fun x hx => ?_
  cases e : sameH x.rc.hs x.rc.hg hs hg with
  | false => rfl
  | true =>
    have hne : x.rc.ms ≠ (j : Int) + 1 := fun e2 => by rw [h x hx e2] at e; cases e
    have : decide (x.rc.ms ≤ ((j + 1 : Nat) : Int)) = decide (x.rc.ms ≤ (j : Int)) := by
      by_cases q : x.rc.ms ≤ (j : Int)
      · rw [decide_eq_true q, decide_eq_true (by omega)]
      · rw [decide_eq_false q, decide_eq_false (by omega)]
    rw [this]
theorem left_step_cut {N : List Nd} {hs hg : Int} {j : Nat} {x : Nd} (hm : (N.map (·.rc.ms)).Nodup) (hb : (N.map (·.blk)).Nodup) (hx : x ∈ N) (h1 : x.rc.ms = (j : Int) + 1) (h2 : sameH x.rc.hs x.rc.hg hs hg = true) : left N hs hg (j + 1) = less (left N hs hg j) x.blk := by
  unfold left less
  rw [List.filter_filter]
  refine List.filter_congr fun y hy => ?_
  by_cases e : y = x
  · subst e
    rw [h2]
    simp [h1]
  · have e1 : y.blk ≠ x.blk := fun q => e (nodup_inj hb hy hx q)
    have e2 : y.rc.ms ≠ (j : Int) + 1 := fun q => e (nodup_inj hm hy hx (q.trans h1.symm))
    have e3 : decide (y.blk ≠ x.blk) = true := decide_eq_true e1
    have : decide (y.rc.ms ≤ ((j + 1 : Nat) : Int)) = decide (y.rc.ms ≤ (j : Int)) := by
      by_cases q : y.rc.ms ≤ (j : Int)
      · rw [decide_eq_true q, decide_eq_true (by omega)]
      · rw [decide_eq_false q, decide_eq_false (by omega)]
    rw [this, e3, Bool.true_and]
def Bk.upto (B : Bk) (hs hg : Int) (j : Nat) : Bk := { B with N := left B.N hs hg j }
def Bk.left (B : Bk) (hs hg : Int) : Bk := { B with N := B.N.filter fun x => !sameH x.rc.hs x.rc.hg hs hg }
theorem left_all {bp : Nat} {B : Bk} (h : BookOk bp B) (hs hg : Int) : B.upto hs hg B.gens.length = B.left hs hg := by
  unfold Bk.upto Bk.left Go.Proofs.Ytkdiibgjkipdnaa.left
  congr 1
  refine List.filter_congr fun x hx => ?_
  obtain ⟨i, hi, hg'⟩ := h.slot x hx
  have := (List.getElem?_eq_some_iff.1 hg').1
  rw [decide_eq_true (show x.rc.ms ≤ (B.gens.length : Int) by omega), Bool.and_true]
def LeaveTo (w : World) (bp : Nat) (B : Bk) (hs hg : Int) (e : Ending) (w' : World) : Prop := e = .returned (.int .i64 ((B.N.length : Int) - ((B.left hs hg).N.length : Nat))) ∧ BookTo w bp B w' (B.left hs hg)
set_option maxHeartbeats 4000000 in
set_option maxRecDepth 100000 in
theorem leave_c (bp : Nat) (B : Bk) (hs hg : Int) (w : World) (h : BookAt w bp B) (hN : B.N.length ≤ 100000) :
    Calls Try.prog 25 #[.pointer (some ⟨bp, 0, none⟩), .agg #[.int .u32 hs, .int .u32 hg]] w (LeaveTo w bp B hs hg) := by
  have hA : Below w.heap.size w (w.alloc (.cells #[.int .u32 hs, .int .u32 hg] 35)) := (Below.refl _ _).alloc (Nat.le_refl _) _
  have hR := Row.new w 35 [.int .u32 hs, .int .u32 hg]
  change Row (w.alloc (.cells #[.int .u32 hs, .int .u32 hg] 35)) _ _ _ at hR
  have h1 := h.below hA
  obtain ⟨A, c, hsv, _⟩ := own_form h1.mem.slots
  obtain ⟨_, k1, _⟩ := h1.fields
  rw [hsv] at k1
  have HA := Lib.hid hA
  have H0 := Lib.hid h
  have HRW := Lib.hid hR
  have HN := Lib.hid hN
  have HSV := Lib.hid hsv
  have hfew := h.ok.few
  have HL0 : Hid (B.upto hs hg 0 = B) := Lib.hid (by unfold Bk.upto; rw [left_zero h.ok])
  have hwl : w.heap.size < (w.alloc (.cells #[.int .u32 hs, .int .u32 hg] 35)).heap.size := hR.lt
  obtain ⟨n, hn⟩ : ∃ n, B.gens.length = n := ⟨_, rfl⟩
  have HNE := Lib.hid hn
  rw [hn] at k1 hfew
  have H1 := Lib.hid h1
  clear h h1 hA hR hN hsv hn
  go_enter Try.func25, Try.ntmps25
  go_wp2_with fail
  go_step3
  go_wp2_with fail
  go_step3
  go_wp2_with fail
  generalize w.alloc (.cells #[.int .u32 hs, .int .u32 hg] 35) = w1 at *
  have HOW : Hid (∀ b, B.own bp b → b ≠ w.heap.size) := Lib.hid fun b hb e => by have := H0.out.mem.lt hb; omega
  have HOW2 : Hid (∀ b, B.own bp b → b ≠ w.heap.size) := HOW
  go_loopw [5, 7, 15] (fun u v x wr => ∃ j : Nat, j ≤ n ∧ x = .int .i64 j ∧ u = .int .i64 ((B.N.length : Int) - ((B.upto hs hg j).N.length : Nat)) ∧ BookTo w1 bp B wr (B.upto hs hg j)) (fun _ _ x _ => n - (intOf x).toNat)
  case atStart => exact ⟨0, by omega, rfl, by rw [HL0.out]; simp, by rw [HL0.out]; exact .refl H1.out⟩
  case round =>
    obtain ⟨j, hj, rfl, rfl, hto⟩ := hrel
    have j0 : (0 : Int) ≤ (j : Int) := by omega
    have HTO := Lib.hid hto
    have HRW2 := Lib.hid (hto.but.row HRW.out (fun e => HOW2.out _ e rfl))
    have r0 := HRW2.out.cell 0
    have r1 := HRW2.out.cell 1
    dsimp only [List.getElem?_cons_zero, List.getElem?_cons_succ] at r0 r1
    by_cases hjn : j < n
    · have d0 : decide ((j : Int) < (n : Int)) = true := decide_eq_true (by omega)
      have hsv2 : (B.upto hs hg j).sv = .slice A n c := by rw [← HNE.out]; exact HSV.out
      have hgl : (B.upto hs hg j).gens.length = n := HNE.out
      have hsl := hto.at_.mem.slots
      rw [hsv2, hgl] at hsl
      obtain ⟨A2, c2, he, hcell⟩ := own_form hsl
      obtain ⟨rfl, -, rfl⟩ : A = A2 ∧ True ∧ c = c2 := by injection he with e1 e2 e3; exact ⟨e1, trivial, e3⟩
      obtain ⟨g, hA, hc, _⟩ := hcell j _ (slotCells_get hjn)
      subst hA
      cases hso : slotOf (B.upto hs hg j).N j with
      | none =>
        rw [hso] at hc
        simp only [pt] at hc
        have HNX : Hid (B.upto hs hg (j + 1) = B.upto hs hg j) := Lib.hid (by
          unfold Bk.upto
          rw [left_step_same]
          intro x hx e
          cases q : sameH x.rc.hs x.rc.hg hs hg with
          | false => rfl
          | true => exact absurd e (slotOf_none hso x (mem_left.2 ⟨hx, fun _ => by omega⟩)))
        clear hto hsv2 hgl hsl he hcell hso
        go_wp2_with fail
        go_quiet (fail)
        go_wp2_with fail
        go_roundw
        case rel => exact ⟨j + 1, by omega, by go_num, by rw [HNX.out], by rw [HNX.out]; exact HTO.out.then (below_drewN (Below.refl _ _) _)⟩
        case measure => simp [intOf] <;> omega
      | some b =>
        obtain ⟨x, hx, hxi, hxb⟩ := slotOf_some hso
        rw [hso] at hc
        simp only [pt] at hc
        obtain ⟨a0, a1, a2, a3, _⟩ := Nd.at_ (hto.at_.mem.node x hx)
        rw [hxb] at a2 a3
        have e1 := fun w => run_neq_handle x.rc.hs x.rc.hg hs hg w
        have HX := Lib.hid hx
        have hxN : x ∈ B.N := (mem_left.1 hx).1
        by_cases h1 : sameH x.rc.hs x.rc.hg hs hg = true
        · rw [h1] at e1
          have HNX : Hid (B.upto hs hg (j + 1) = (B.upto hs hg j).cut x.blk) := Lib.hid (by
            unfold Bk.upto Bk.cut
            rw [left_step_cut H0.out.ok.ms H0.out.ok.blks hxN hxi h1])
          have HLN : Hid (((B.upto hs hg (j + 1)).N.length : Int) = (B.upto hs hg j).N.length - 1) := Lib.hid (by
            rw [HNX.out]
            have := less_length (hto.at_.ok.blks) hx
            change ((less (B.upto hs hg j).N x.blk).length : Int) = _
            omega)
          have hle : (B.upto hs hg j).N.length ≤ 100000 := Nat.le_trans (List.length_filter_le _ _) HN.out
          have hle2 : (B.upto hs hg j).N.length ≤ B.N.length := List.length_filter_le _ _
          have HLE2 := Lib.hid hle2
          have HXB := Lib.hid hxb
          clear hsv2 hgl hsl he hcell hso a0 a1 h1 hx hxN hxi
          go_wp2_with fail
          go_quiet (fail)
          have hto3 := hto.then (below_drewN (Below.refl _ wr) nq)
          have CO := Lib.hid (out_c bp _ x (wr.drewN nq) hto3.at_ hle HX.out)
          rw [HXB.out] at CO
          have HTO3 := Lib.hid hto3
          clear hto hto3 hc a2 a3 r0 r1 hle hle2
          generalize wr.drewN nq = wq at *
          go_wp2_with fail
          refine CO.out.mono ?_
          rintro e w5 ⟨rfl, hto5⟩
          rw [HXB.out] at HNX
          rw [← HNX.out] at hto5
          have HTO5 := Lib.hid (HTO3.out.trans hto5)
          clear hto5 CO
          have hbn : ((B.N.length : Int) - ((B.upto hs hg j).N.length : Nat)) + 1 = (B.N.length : Int) - ((B.upto hs hg (j + 1)).N.length : Nat) := by rw [HLN.out]; omega
          have hb0 := HLE2.out
          have hb1 := HN.out
          go_wp2_with fail
          go_roundw
          case rel => exact ⟨j + 1, by omega, by go_num, by rw [← hbn], HTO5.out⟩
          case measure => simp [intOf] <;> omega
        · have h1 : sameH x.rc.hs x.rc.hg hs hg = false := by rw [← Bool.not_eq_true]; exact h1
          rw [h1] at e1
          have HNX : Hid (B.upto hs hg (j + 1) = B.upto hs hg j) := Lib.hid (by
            unfold Bk.upto
            rw [left_step_same]
            intro y hy e
            have : y = x := nodup_inj H0.out.ok.ms hy hxN (e.trans hxi.symm)
            subst this
            exact h1)
          clear hto hsv2 hgl hsl he hcell hso a0 a1 h1 hx hxN hxi
          go_wp2_with fail
          go_quiet (fail)
          go_wp2_with fail
          go_roundw
          case rel => exact ⟨j + 1, by omega, by go_num, by rw [HNX.out], by rw [HNX.out]; exact HTO.out.then (below_drewN (Below.refl _ _) _)⟩
          case measure => simp [intOf] <;> omega
    · have d0 : decide ((j : Int) < (n : Int)) = false := decide_eq_false (by omega)
      have HJ : Hid (B.upto hs hg j = B.left hs hg) := Lib.hid (by rw [show j = n by omega, ← HNE.out]; exact left_all H0.out.ok hs hg)
      clear hto r0 r1
      go_wp2_with fail
      go_ret
      refine ⟨by rw [← HJ.out]; rfl, ?_⟩
      rw [← HJ.out]
      exact BookTo.after HA.out H0.out HTO.out
end Go.Proofs.Ytkdiibgjkipdnaa
