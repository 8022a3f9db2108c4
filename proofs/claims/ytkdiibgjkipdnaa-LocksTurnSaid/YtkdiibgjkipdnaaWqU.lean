/-
  some of a book: the walk.
-/
import Derived.Test.YtkdiibgjkipdnaaWqT
namespace Go.Proofs.Ytkdiibgjkipdnaa
open Go.RowKit Go.Maps
set_option linter.unusedSimpArgs false

set_option maxHeartbeats 8000000 in
set_option maxRecDepth 100000 in
theorem some_c (bp : Nat) (B : Bk) (f : Nat) (cb : Array Value) (p : Nd → Bool) (w : World) (h : BookAt w bp B) (hser : ∀ x ∈ B.N, 0 ≤ x.ser)
    (eg : ∀ args w, (callFunc f args).run Try.prog w = .ok (.enter f args) w)
    (hfit : ∀ w', Go.RowKit.Below w.heap.size w w' → ∀ x ∈ B.N, Calls Try.prog f (#[.pointer (some ⟨x.blk, 0, none⟩)] ++ cb) w' fun e w'' => e = .returned (.bool (p x)) ∧ ∃ q, w'' = w'.drewN q) :
    Calls Try.prog 26 #[.pointer (some ⟨bp, 0, none⟩), .func (.func f) #[] cb] w (RecsOut w ((B.N.filter p).map (·.rc))) := by
  obtain ⟨i0, hi, hz0, hz1, hz2⟩ := info_parts infoPtr
  obtain ⟨k0, hki, hkz0, hkz1, hkz2⟩ := info_parts infoRec
  have H0 := Lib.hid h
  have HF := Lib.hid hfit
  have HSER := Lib.hid hser
  obtain ⟨_, c1, _⟩ := h.fields
  obtain ⟨A, c, hsv, hcell⟩ := own_form h.mem.slots
  rw [hsv] at c1
  have hfew := h.ok.few
  obtain ⟨n, hn⟩ : ∃ n, B.gens.length = n := ⟨_, rfl⟩
  rw [hn] at c1 hfew hcell
  have HC := Lib.hid hcell
  have HNE := Lib.hid hn
  have HSV := Lib.hid hsv
  clear h hfit hser hsv hcell hn
  go_enter Try.func26, Try.ntmps26
  go_wp2_with fail
  go_loopw [5, 7, 18] (fun v _ x wr => ∃ j : Nat, j ≤ n ∧ x = .int .i64 j ∧ wr.ownsRow w.heap.size 92 1 v (picks B.N p j).length ((picks B.N p j).map ptN) ∧ Go.RowKit.Below w.heap.size w wr) (fun _ _ x _ => n - (intOf x).toNat)
  case atStart => exact ⟨0, by omega, rfl, World.ownsRow_nil _ _ _ _, Go.RowKit.Below.refl _ _⟩
  case round =>
    obtain ⟨j, hj, rfl, hown, hb⟩ := hrel
    have j0 : (0 : Int) ≤ (j : Int) := by omega
    have HB := Lib.hid hb
    have HO := Lib.hid hown
    have hpl := picks_len H0.out.ok p (j := j) (by rw [HNE.out]; exact hj)
    by_cases hjn : j < n
    · have d0 : decide ((j : Int) < (n : Int)) = true := decide_eq_true (by omega)
      obtain ⟨g, hA, hc, _⟩ := HC.out j _ (slotCells_get hjn)
      have hsl : A = some ⟨g, 0, none⟩ → wr.cell? ⟨g, j, none⟩ = some (pt (slotOf B.N j)) := fun e => by
        have hg : g < w.heap.size := (H0.out.mem.slots.lt g (by rw [HSV.out, e]; rfl)).2
        rw [World.cell?_of_block (hb.block g hg)]
        exact hc
      have hc := hsl hA
      subst hA
      rw [slotOf_ndAt] at hc
      have HPS := Lib.hid (picks_succ B.N p j)
      cases hnd : ndAt B.N j with
      | none =>
        rw [hnd] at hc HPS
        simp only [Option.map_none, pt, List.append_nil] at hc HPS
        clear hsl hnd hown hb
        go_wp2_with fail
        go_roundw
        case rel => exact ⟨j + 1, by omega, by go_num, by rw [HPS.out]; exact HO.out, HB.out⟩
        case measure => simp [intOf] <;> omega
      | some x =>
        have hx := (ndAt_some hnd).1
        rw [hnd] at hc HPS
        simp only [Option.map_some, pt] at hc HPS
        have CF := Lib.hid (HF.out wr hb x hx)
        have hne := fun w => (show (binOp .neq 92 (.pointer (some ⟨x.blk, 0, none⟩)) (.pointer none)).run Try.prog w = .ok (.bool true) w by kernel_rfl)
        cases hpx : p x with
        | false =>
          rw [hpx] at CF HPS
          simp only [Bool.false_eq_true, if_false, List.append_nil] at HPS
          clear hsl hnd hown hb hx hpx
          go_wp2_with fail
          refine CF.out.mono ?_
          rintro e w5 ⟨rfl, q, rfl⟩
          have HO5 := Lib.hid (own_move (w' := wr.drewN q) HO.out fun _ _ => rfl)
          have HB5 := Lib.hid (below_drewN HB.out q)
          clear CF HO HB hc c1
          generalize wr.drewN q = w5 at *
          go_wp2_with fail
          go_roundw
          case rel => exact ⟨j + 1, by omega, by go_num, by rw [HPS.out]; exact HO5.out, HB5.out⟩
          case measure => simp [intOf] <;> omega
        | true =>
          rw [hpx] at CF HPS
          simp only [if_true] at HPS
          have HPL : Hid ((picks B.N p (j + 1)).length = (picks B.N p j).length + 1) := Lib.hid (by rw [HPS.out]; simp)
          have hpl2 := picks_len H0.out.ok p (j := j + 1) (by rw [HNE.out]; exact hjn)
          rw [HPL.out] at hpl2
          have HPM : Hid ((picks B.N p (j + 1)).map ptN = (picks B.N p j).map ptN ++ [.pointer (some ⟨x.blk, 0, none⟩)]) := Lib.hid (by rw [HPS.out]; simp [ptN])
          obtain ⟨A5, c5, hv5, _⟩ := own_form hown
          subst hv5
          clear hsl hnd hown hb hx hpx HPS
          go_wp2_with fail
          refine CF.out.mono ?_
          rintro e w5 ⟨rfl, q, rfl⟩
          have HO5 := Lib.hid (own_move (w' := wr.drewN q) HO.out fun _ _ => rfl)
          have HB5 := Lib.hid (below_drewN HB.out q)
          clear CF HO HB hc c1
          generalize wr.drewN q = w5 at *
          have hsz5 : w.heap.size ≤ w5.heap.size := HB5.out.size
          obtain ⟨m, hm⟩ : ∃ m, (picks B.N p j).length = m := ⟨_, rfl⟩
          have HM := Lib.hid hm
          rw [hm] at HO5 hpl hpl2 ⊢
          clear hm
          go_wp2_with (first
            | (at_builtin; refine wpList_append_own _ rfl _ _ 71 rfl w.heap.size 92 i0 (.pointer none) 1 8 Try.underlying71 hi hz0 hz1 hz2 rfl (by decide) _ m ((picks B.N p j).map ptN) rfl (World.ownsRow.alloc HO5.out _) ⟨w5.heap.size, 0, none⟩ 1 1 [.pointer (some ⟨x.blk, 0, none⟩)] rfl rfl ?c1 ?c2 ?c3 ?c4 ?c5 ?_)
            | go_in)
          case c1 =>
            intro q u hq
            rw [add_zero]
            exact ((Row.new w5 92 [.pointer (some ⟨x.blk, 0, none⟩)]).cell q).trans hq
          case c2 => first | (intro u hu; simp at hu; subst hu; rfl) | simp [Value.oneCell']
          case c3 => unfold maxLen; omega
          case c4 => omega
          case c5 => first | omega | (simp; omega)
          intro v' w7 hown' hgrow _
          have hgr : w5.grownBy w7 (Value.slice A5 m c5).ownBlock := (World.grownBy_alloc w5 _ _).trans hgrow
          have HB7 : Hid (Go.RowKit.Below w.heap.size w w7) := Lib.hid (HB5.out.grown hgr hsz5 (fun q e => (HO5.out.lt q e).1))
          have HO7 := Lib.hid hown'
          have hvl : ∃ A c, v' = .slice A (m + 1) c := by obtain ⟨A, c, e, _⟩ := own_form hown'; exact ⟨A, c, e⟩
          obtain ⟨A6, c6, rfl⟩ := hvl
          clear hown' hgrow hgr HO5 HB5
          go_wp2_with fail
          go_roundw
          case rel => exact ⟨j + 1, by omega, by go_num, by rw [HPL.out, HM.out, HPM.out]; exact HO7.out, HB7.out⟩
          case measure => simp [intOf] <;> omega
    · have d0 : decide ((j : Int) < (n : Int)) = false := decide_eq_false (by omega)
      have hjn' : j = n := by omega
      subst hjn'
      have hper := picks_perm H0.out.ok p
      rw [HNE.out] at hper
      have CS := Lib.hid (sort_c (B.N.filter p) (picks B.N p j) (filter_ser H0.out.ok p) hper w.heap.size u5 wr hown (fun x hx => by
        have hxN := (List.mem_filter.1 hx).1
        have hlt := (H0.out.mem.node x hxN).lt
        refine ⟨?_, ⟨HSER.out x hxN, Int.le_trans (H0.out.ok.upto x hxN) H0.out.ok.fewp.2⟩, hlt⟩
        rw [World.cell?_of_block (hb.block x.blk hlt)]
        exact (H0.out.mem.node x hxN).cell 11) hpl)
      obtain ⟨L, hL⟩ : ∃ L, B.N.filter p = L := ⟨_, rfl⟩
      have HLN : Hid (∀ x ∈ L, x ∈ B.N) := Lib.hid (fun x hx => by rw [← hL] at hx; exact (List.mem_filter.1 hx).1)
      have HLL : Hid (L.length ≤ 100000) := Lib.hid (by rw [← hL, ← hper.length_eq]; exact hpl)
      have HLEQ := Lib.hid hL
      rw [hL] at CS
      clear hown hb hper hpl HO hL c1 HC
      go_wp2_with fail
      refine CS.out.mono ?_
      rintro e w5 ⟨rfl, hown5, hb5⟩
      have HB5 : Hid (Go.RowKit.Below w.heap.size w w5) := Lib.hid (HB.out.trans hb5)
      obtain ⟨A5, c5, rfl, hcell5⟩ := own_form hown5
      have HO5 := Lib.hid hown5
      have HC5 := Lib.hid hcell5
      clear hown5 hb5 CS hcell5 HB
      have hll := HLL.out
      obtain ⟨m, hm⟩ : ∃ m, L.length = m := ⟨_, rfl⟩
      have HM := Lib.hid hm
      rw [hm] at hll HO5 ⊢
      clear hm
      have hszw : w.heap.size ≤ w5.heap.size := HB5.out.size
      go_wp2_with fail
      go_loopw [8, 10, 38] (fun v _ x wr => ∃ j : Nat, j ≤ m ∧ x = .int .i64 j ∧ wr.ownsRow w5.heap.size 96 11 v j (recs ((L.map (·.rc)).take j)) ∧ Go.RowKit.Below w5.heap.size w5 wr) (fun _ _ x _ => m - (intOf x).toNat)
      case atStart => exact ⟨0, by omega, rfl, World.ownsRow_nil _ _ _ _, Go.RowKit.Below.refl _ _⟩
      case round =>
        obtain ⟨i, hi', rfl, hown, hb⟩ := hrel
        have j0 : (0 : Int) ≤ (i : Int) := by omega
        obtain ⟨A8, c8, hv8, _⟩ := own_form hown
        subst hv8
        by_cases him : i < m
        · have d0 : decide ((i : Int) < (m : Int)) = true := decide_eq_true (by omega)
          obtain ⟨y, hy⟩ : ∃ y, L[i]? = some y := ⟨_, List.getElem?_eq_getElem (by rw [HM.out]; exact him)⟩
          have hyN := HLN.out y (List.mem_of_getElem? hy)
          obtain ⟨g5, hA5, hc5, _⟩ := HC5.out i (ptN y) (by rw [List.getElem?_map, hy]; rfl)
          have hg5 : g5 < w5.heap.size := (HO5.out.lt g5 (by rw [hA5]; rfl)).2
          have hc5 : wr.cell? ⟨g5, i, none⟩ = some (.pointer (some ⟨y.blk, 0, none⟩)) := by
            rw [World.cell?_of_block (hb.block g5 hg5)]; exact hc5
          subst hA5
          have hrow := ((H0.out.below HB5.out).below hb).mem.node y hyN
          obtain ⟨a0, a1, a2, a3, a4, a5, a6, a7, a8, a9, a10, _⟩ := Nd.at_ hrow
          have HTK : Hid (recs ((L.map (·.rc)).take (i + 1)) = recs ((L.map (·.rc)).take i) ++ y.rc.cells) := Lib.hid (by rw [take_next (s := y.rc) (by rw [List.getElem?_map, hy]; rfl), recs_append, recs_one])
          obtain ⟨yb, yrb, yr, ys⟩ := y
          obtain ⟨q0, q1, q2, q3, q4, q5, q6, q7, q8, q9, q10⟩ := yr
          simp only [Rc.cells] at HTK
          simp only at a0 a1 a2 a3 a4 a5 a6 a7 a8 a9 a10 hc5
          have HO := Lib.hid hown
          have HB := Lib.hid hb
          have hsz : w5.heap.size ≤ wr.heap.size := hb.size
          clear hy hyN hrow hown hb hg5
          go_wp2_with (first
            | (at_builtin; refine wpList_append_own _ rfl _ _ 56 rfl w5.heap.size 96 k0 (.agg #[.int .u32 0, .int .u32 0, .int .u32 0, .int .u32 0, .int .u32 0, .int .u32 0, .int .i64 0, .int .i64 0, .int .i64 0, .int .u32 0, .int .u32 0]) 11 56 Try.underlying56 hki hkz0 hkz1 hkz2 rfl (by decide) _ i (recs ((L.map (·.rc)).take i)) rfl (World.ownsRow.alloc HO.out _) ⟨wr.heap.size, 0, none⟩ 1 1 [.int .u32 q0, .int .u32 q1, .int .u32 q2, .int .u32 q3, .int .u32 q4, .int .u32 q5, .int .i64 q6, .int .i64 q7, .int .i64 q8, .int .u32 q9, .int .u32 q10] rfl rfl ?c1 ?c2 ?c3 ?c4 ?c5 ?_)
            | go_in)
          case c2 => first | (intro u hu; simp at hu; rcases hu with rfl | rfl | rfl | rfl | rfl | rfl | rfl | rfl | rfl | rfl | rfl <;> rfl) | simp [Value.oneCell']
          case c3 => unfold maxLen; omega
          case c4 => omega
          case c5 => first | omega | (simp; omega)
          intro v' w7 hown' hgrow _
          have hgr : wr.grownBy w7 (Value.slice A8 i c8).ownBlock := (World.grownBy_alloc wr _ _).trans hgrow
          have HB7 : Hid (Go.RowKit.Below w5.heap.size w5 w7) := Lib.hid (HB.out.grown hgr hsz (fun q e => (HO.out.lt q e).1))
          have HO7 := Lib.hid hown'
          have hvl : ∃ A c, v' = .slice A (i + 1) c := by obtain ⟨A, c, e, _⟩ := own_form hown'; exact ⟨A, c, e⟩
          obtain ⟨A6, c6, rfl⟩ := hvl
          clear hown' hgrow hgr a0 a1 a2 a3 a4 a5 a6 a7 a8 a9 a10 hc5
          go_wp2_with fail
          go_roundw
          case rel =>
            refine ⟨i + 1, by omega, by go_num, ?_, HB7.out⟩
            rw [HTK.out]
            exact HO7.out
          case measure => simp [intOf] <;> omega
        · have d0 : decide ((i : Int) < (m : Int)) = false := decide_eq_false (by omega)
          have hall : (L.map (·.rc)).take i = L.map (·.rc) := List.take_of_length_le (by rw [List.length_map, HM.out]; omega)
          rw [hall] at hown
          have HO : Hid (wr.ownsRow w.heap.size 96 11 (.slice A8 i c8) i (recs (L.map (·.rc)))) := Lib.hid (hown.mono HB5.out.size)
          have HB : Hid (Go.RowKit.Below w.heap.size w wr) := Lib.hid (HB5.out.trans (hb.mono HB5.out.size))
          have hjL : i = m := by omega
          have HJ := Lib.hid hjL
          clear hown hb hall hjL
          go_wp2_with fail
          go_ret
          refine ⟨_, rfl, ?_, HB.out⟩
          rw [HLEQ.out, List.length_map, HM.out, ← HJ.out]
          exact HO.out
end Go.Proofs.Ytkdiibgjkipdnaa
