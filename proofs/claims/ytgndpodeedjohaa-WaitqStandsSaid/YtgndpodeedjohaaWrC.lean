/-
  WaitqStands: the walk.
-/
import Derived.Test.YtgndpodeedjohaaWrP
import Derived.Deep.CutBlock
import Derived.Deep.DeepCutAuto
import Derived.Deep.RegionHeld3
namespace Go.Proofs.Ytgndpodeedjohaa
open Go.RowKit Go.Maps
set_option linter.unusedSimpArgs false

theorem run_eqlb_some_nil (a : Addr) (w : World) : (binOp .eql 25 (.pointer (some a)) (.pointer none)).run Try.prog w = .ok (.bool false) w := by kernel_rfl
/-- bounds, by how many steps were gone through -/
structure Few (B : Bk) (T : List Rc) (j : Nat) : Prop where
  gens : B.gens.length ≤ j
  put : B.put ≤ j
  mn : B.mn ≤ j
  N : B.N.length ≤ j
  T : T.length ≤ j
/-- what holds between the steps -/
structure Going (b0 : Nat) (w0 w : World) (bp : Nat) (tv ov : Value) (T : List Rc) (O : List Int) (B : Bk) (j : Nat) : Prop where
  scr : Scr b0 w bp B tv ov T O
  st : Stand B T O
  few : Few B T j
  bel : Below b0 w0 w
  keys : ∀ r ∈ T, r.key.Ok
theorem newBk_going {w0 w : World} {b0 bp mp : Nat} (h : BookAt w bp (newBk mp)) (hb : Below b0 w0 w) (h1 : b0 ≤ bp) (h2 : b0 ≤ mp) : Going b0 w0 w bp (.slice none 0 0) (.slice none 0 0) [] [] (newBk mp) 0 := by
  refine ⟨⟨h, World.ownsRow_nil _ _ _ _, World.ownsRow_nil _ _ _ _, ?_, ?_, ?_, ?_⟩, ⟨rfl, rfl, ?_, List.Pairwise.nil, ?_, ?_⟩, ⟨?_, ?_, ?_, ?_, ?_⟩, hb, fun r hr => by cases hr⟩
  · rintro b (e | e | e | e | ⟨x, hx, _⟩)
    · rw [e]; exact h1
    · rw [e]; exact h2
    · cases e
    · cases e
    · cases hx
  · intro g e; cases e
  · intro g e; cases e
  · intro g e; cases e
  · intro r hr; cases hr
  · intro o ho; cases ho
  · intro x hx; cases hx
  all_goals simp [newBk]
theorem Going.below {b0 bp : Nat} {w0 w w' : World} {tv ov : Value} {T : List Rc} {O : List Int} {B : Bk} {j : Nat} (h : Going b0 w0 w bp tv ov T O B j) (hw : b0 ≤ w.heap.size) (hb : Below w.heap.size w w') : Going b0 w0 w' bp tv ov T O B j :=
  ⟨h.scr.below hb, h.st, h.few, h.bel.trans (hb.mono hw), h.keys⟩
theorem Few.next {B : Bk} {T : List Rc} {j : Nat} (h : Few B T j) : Few B T (j + 1) := by
  obtain ⟨a, b, c, d, e⟩ := h
  exact ⟨by omega, by omega, by omega, by omega, by omega⟩
theorem Going.next {b0 bp : Nat} {w0 w : World} {tv ov : Value} {T : List Rc} {O : List Int} {B : Bk} {j : Nat} (h : Going b0 w0 w bp tv ov T O B j) : Going b0 w0 w bp tv ov T O B (j + 1) := ⟨h.scr, h.st, h.few.next, h.bel, h.keys⟩
theorem putErr_ne {N : List Nd} {k : Key} {hs hg arm er : Int} (h : putErr N k hs hg arm = some er) : er ≠ 0 := by
  unfold putErr at h
  split at h
  · cases h; decide
  · split at h
    · cases h; decide
    · split at h
      · cases h; decide
      · cases h
theorem infoInt : (Try.prog.info? 3).map (fun i => (i.zero, i.size, i.bytes)) = some (some (.int .i64 0), 1, 8) := by kernel_rfl
set_option maxHeartbeats 8000000 in
set_option maxRecDepth 100000 in
theorem stands_walk (A : Option Addr) (n c : Nat) (os : List Opn) (w : World) (hx : Script w A n os) :
    Calls Try.prog 4 #[.slice A n c] w fun e w' => e = .returned (.bool true) ∧ Below w.heap.size w w' := by
  have HX := Lib.hid hx
  clear hx
  go_enter Try.func4, Try.ntmps4
  go_wp2_with fail
  refine (awake11_c _).mono ?_
  rintro e w1 ⟨rfl, hb1⟩
  have HB1 := Lib.hid hb1
  clear hb1
  go_wp2_with fail
  refine (new_c _).mono ?_
  rintro e w2 ⟨rfl, hbk, hb2⟩
  have hez := fun w => run_eqlb_some_nil ⟨w1.heap.size + 1, 0, none⟩ w
  have HG : Hid (Going w.heap.size w w2 (w1.heap.size + 1) (.slice none 0 0) (.slice none 0 0) [] [] (newBk w1.heap.size) 0) := Lib.hid (newBk_going hbk (HB1.out.trans (hb2.mono HB1.out.size)) (Nat.le_succ_of_le HB1.out.size) HB1.out.size)
  obtain ⟨bp, hbp⟩ : ∃ bp, w1.heap.size + 1 = bp := ⟨_, rfl⟩
  rw [hbp] at HG hez ⊢
  clear hbk hb2 hbp
  go_upto_block 0 with fail
  go_cut [5, 6] from 7 (fun tv ov wx => ∃ (T : List Rc) (O : List Int) (B : Bk) (j : Nat), j ≤ 600 ∧ Going w.heap.size w wx bp tv ov T O B j)
  case first =>
   go_wp2_with fail
   go_loopw [5, 6, 7] (fun tv ov x wr => ∃ (j : Nat) (T : List Rc) (O : List Int) (B : Bk), j ≤ 600 ∧ x = .int .i64 j ∧ Going w.heap.size w wr bp tv ov T O B j) (fun _ _ x _ => 600 - (intOf x).toNat)
   case atStart => exact ⟨0, _, _, _, by omega, rfl, HG.out⟩
   case round =>
     obtain ⟨j, T, O, B, hj, rfl, hgo⟩ := hrel
     have HGO := Lib.hid hgo
     have j0 : (0 : Int) ≤ (j : Int) := by omega
     clear hgo
     by_cases hjn : j < n
     · by_cases hj6 : j < 600
       · have d0 : decide ((j : Int) < (n : Int)) = true := decide_eq_true (by omega)
         have d1 : decide ((j : Int) < 600) = true := decide_eq_true (by omega)
         obtain ⟨o, ho⟩ : ∃ o, os[j]? = some o := ⟨_, List.getElem?_eq_getElem (by rw [HX.out.len]; exact hjn)⟩
         obtain ⟨ad, hA, hcell⟩ := HX.out.at_ j o ho
         have hok := HX.out.ok o (List.mem_of_getElem? ho)
         subst hA
         have HCL : Hid (∀ k u, o.cells[k]? = some u → wr.cell? (ad.add (j * 14 + k)) = some u) := Lib.hid fun k u hu => by
           have h1 := hcell k u hu
           rw [HGO.out.bel.cell (cell_lt h1)]; exact h1
         have HOK := Lib.hid hok
         clear hcell hok ho
         obtain ⟨kind, which, arm, oos, og, sd, hs, hg, ms, mg, hand, vn, vs, vg⟩ := o
         have q0 := HCL.out 0 _ rfl
         have q1 := HCL.out 1 _ rfl
         have q2 := HCL.out 2 _ rfl
         have q3 := HCL.out 3 _ rfl
         have q4 := HCL.out 4 _ rfl
         have q5 := HCL.out 5 _ rfl
         have q6 := HCL.out 6 _ rfl
         have q7 := HCL.out 7 _ rfl
         have q8 := HCL.out 8 _ rfl
         have q9 := HCL.out 9 _ rfl
         have q10 := HCL.out 10 _ rfl
         have q11 := HCL.out 11 _ rfl
         have q12 := HCL.out 12 _ rfl
         have q13 := HCL.out 13 _ rfl
         simp only [Nat.add_zero] at q0
         rw [← addr_add] at q1 q2 q3 q4 q5 q6 q7 q8 q9 q10 q11 q12 q13
         change wr.cell? ⟨(ad.add (j * 14)).block, (ad.add (j * 14)).off + 1, none⟩ = _ at q1
         change wr.cell? ⟨(ad.add (j * 14)).block, (ad.add (j * 14)).off + 2, none⟩ = _ at q2
         change wr.cell? ⟨(ad.add (j * 14)).block, (ad.add (j * 14)).off + 3, none⟩ = _ at q3
         change wr.cell? ⟨(ad.add (j * 14)).block, (ad.add (j * 14)).off + 4, none⟩ = _ at q4
         change wr.cell? ⟨(ad.add (j * 14)).block, (ad.add (j * 14)).off + 5, none⟩ = _ at q5
         change wr.cell? ⟨(ad.add (j * 14)).block, (ad.add (j * 14)).off + 6, none⟩ = _ at q6
         change wr.cell? ⟨(ad.add (j * 14)).block, (ad.add (j * 14)).off + 7, none⟩ = _ at q7
         change wr.cell? ⟨(ad.add (j * 14)).block, (ad.add (j * 14)).off + 8, none⟩ = _ at q8
         change wr.cell? ⟨(ad.add (j * 14)).block, (ad.add (j * 14)).off + 9, none⟩ = _ at q9
         change wr.cell? ⟨(ad.add (j * 14)).block, (ad.add (j * 14)).off + 10, none⟩ = _ at q10
         change wr.cell? ⟨(ad.add (j * 14)).block, (ad.add (j * 14)).off + 11, none⟩ = _ at q11
         change wr.cell? ⟨(ad.add (j * 14)).block, (ad.add (j * 14)).off + 12, none⟩ = _ at q12
         change wr.cell? ⟨(ad.add (j * 14)).block, (ad.add (j * 14)).off + 13, none⟩ = _ at q13
         go_upto_region 11 with fail
         have hb0 : w.heap.size ≤ wr.heap.size := HGO.out.bel.size
         have hal : Below wr.heap.size wr (wr.alloc (.cells #[.int .i64 kind, .int .i64 which, .int .i64 arm, .int .u32 oos, .int .u32 og, .int .i64 sd, .int .u32 hs, .int .u32 hg, .int .u32 ms, .int .u32 mg, .bool hand, .int .i64 vn, .int .u32 vs, .int .u32 vg] 48)) := (Below.refl _ _).alloc (Nat.le_refl _) _
         have HG4 := Lib.hid (HGO.out.below hb0 hal)
         have HP4 := Lib.hid (Row.new wr 48 [.int .i64 kind, .int .i64 which, .int .i64 arm, .int .u32 oos, .int .u32 og, .int .i64 sd, .int .u32 hs, .int .u32 hg, .int .u32 ms, .int .u32 mg, .bool hand, .int .i64 vn, .int .u32 vs, .int .u32 vg])
         change Hid (Row (wr.alloc (.cells #[.int .i64 kind, .int .i64 which, .int .i64 arm, .int .u32 oos, .int .u32 og, .int .i64 sd, .int .u32 hs, .int .u32 hg, .int .u32 ms, .int .u32 mg, .bool hand, .int .i64 vn, .int .u32 vs, .int .u32 vg] 48)) _ _ _) at HP4
         have HPB : Hid (w.heap.size ≤ wr.heap.size) := Lib.hid hb0
         have HOP : Hid (∀ g, u6.ownBlock = some g → g < wr.heap.size) := Lib.hid fun g hg => (HGO.out.scr.over.lt g hg).2
         have HOT : Hid (∀ g, u5.ownBlock = some g → g < wr.heap.size) := Lib.hid fun g hg => (HGO.out.scr.told.lt g hg).2
         have HOB : Hid (∀ b, B.own bp b → b < wr.heap.size) := Lib.hid fun b hb => HGO.out.scr.book.mem.lt hb
         clear hal q0 q1 q2 q3 q4 q5 q6 q7 q8 q9 q10 q11 q12 q13 HCL HGO hb0
         generalize wr.alloc (.cells #[.int .i64 kind, .int .i64 which, .int .i64 arm, .int .u32 oos, .int .u32 og, .int .i64 sd, .int .u32 hs, .int .u32 hg, .int .u32 ms, .int .u32 mg, .bool hand, .int .i64 vn, .int .u32 vs, .int .u32 vg] 48) = w4 at *
         generalize wr.heap.size = pb at *
         have q0 := HP4.out.cell 0
         have q1 := HP4.out.cell 1
         simp only [List.getElem?_cons_zero, List.getElem?_cons_succ] at q0 q1
         by_cases hk2 : kind = 2
         · subst hk2
           obtain ⟨tA, tc, htv, htc⟩ := recsAt_own HG4.out.scr.told
           obtain ⟨oA, oc, hov, hoc⟩ := own_form HG4.out.scr.over
           have hlen := HG4.out.st.len
           have htl := HG4.out.few.T
           have HTV := Lib.hid htv
           have HOV := Lib.hid hov
           have HTC := Lib.hid htc
           have HOC := Lib.hid hoc
           clear hoc htc
           obtain ⟨m, hm⟩ : ∃ m, T.length = m := ⟨_, rfl⟩
           rw [hm] at htv htl
           rw [hlen, hm] at hov
           have HM := Lib.hid hm
           subst htv
           subst hov
           by_cases hm0 : 0 < m
           · have d2 : decide (0 < (m : Int)) = true := decide_eq_true (by omega)
             have hkm : pk which m < m := pk_lt hm0
             obtain ⟨k, hkk⟩ : ∃ k, pk which m = k := ⟨_, rfl⟩
             have CP := Lib.hid (pick_c which m w4 HOK.out.which hm0 (by omega))
             rw [hkk] at CP hkm
             obtain ⟨r, hr⟩ : ∃ r, T[k]? = some r := ⟨_, List.getElem?_eq_getElem (by rw [HM.out]; exact hkm)⟩
             obtain ⟨u, hu⟩ : ∃ u, O[k]? = some u := ⟨_, List.getElem?_eq_getElem (by rw [hlen, HM.out]; exact hkm)⟩
             obtain ⟨tg, htA, htgl, htcell⟩ := HTC.out k r hr
             obtain ⟨og, hoA, _, _⟩ := HOC.out k (.int .i64 u) (by rw [List.getElem?_map, hu]; rfl)
             have c0 := htcell 0 (by omega)
             have c1 := htcell 1 (by omega)
             rw [Nat.add_zero] at c0
             change w4.cell? ⟨tg, k * 11, none⟩ = some (.int .u32 r.ms) at c0
             change w4.cell? ⟨tg, k * 11 + 1, none⟩ = some (.int .u32 r.mg) at c1
             subst htA
             subst hoA
             obtain ⟨i, gg, hri, hrg, _⟩ := HG4.out.st.old r (List.mem_of_getElem? hr)
             have hil := (List.getElem?_eq_some_iff.1 hrg).1
             have hgl := HG4.out.few.gens
             have CC := Lib.hid (cut_c bp B r.ms r.mg w4 HG4.out.scr.book (Nat.le_trans HG4.out.few.N (by omega)) (by omega))
             have k0 : (0 : Int) ≤ (k : Int) := by omega
             have k1 : (k : Int) < (m : Int) := by omega
             have HR := Lib.hid hr
             have HU := Lib.hid hu
             clear htcell hm hlen hkk hri hrg hil hgl hr hu
             go_wp2_with fail
             refine CP.out.mono ?_
             rintro e w5 ⟨rfl, rfl⟩
             clear CP
             go_wp2_with fail
             refine CC.out.mono ?_
             rcases HG4.out.st.zo u (List.mem_of_getElem? HU.out) with hu0 | hu1
             · subst hu0
               obtain ⟨x, hf, hxN, hxr⟩ := HG4.out.st.fnd_live HG4.out.scr.book.ok HR.out HU.out
               rw [hf]
               rintro e w6 ⟨rfl, hto⟩
               have hOl : O.length = m := HG4.out.st.len.trans HM.out
               have hS6 := HG4.out.scr.to HG4.out.bel.size hto
               have hst6 := HG4.out.st.cut HG4.out.scr.book.ok hxN (by rw [hxr]; exact HR.out)
               have hb6 := HG4.out.scr.to_below HG4.out.bel HG4.out.bel.size hto
               rw [← hOl] at hS6
               have hS7 := hS6.set (k := k) 1
               have hb7 := hS6.set_below (k := k) hb6 1
               have oc0 : w6.cell? ⟨og, k, none⟩ = some (.int .i64 0) := by
                 rw [hS6.over.cellAt k (by omega), List.getElem?_map, HU.out]; rfl
               have of0 := hS6.over.frozenAt k
               rw [show (O.set k 1).length = m by rw [List.length_set, hOl], hOl] at hS7
               have hfew : Few (B.cut x.blk) T (j + 1) := by
                 obtain ⟨a1, a2, a3, a4, a5⟩ := HG4.out.few
                 exact ⟨Nat.le_succ_of_le a1, by change B.put ≤ _; omega, Nat.le_succ_of_le a3, Nat.le_trans (List.length_filter_le _ _) (Nat.le_succ_of_le a4), Nat.le_succ_of_le a5⟩
               have HGN : Hid (Going w.heap.size w (w6.setCell ⟨og, k, none⟩ (.int .i64 1)) bp (.slice (some ⟨tg, 0, none⟩) m tc) (.slice (some ⟨og, 0, none⟩) m oc) T (O.set k 1) (B.cut x.blk) (j + 1)) := Lib.hid ⟨hS7, hst6, hfew, hb7, HG4.out.keys⟩
               clear hS6 hS7 hb6 hb7 hst6 hfew hto CC hf hOl c0 c1 q0 q1
               go_wp2_with fail
               go_roundw
               case rel => exact ⟨j + 1, T, O.set k 1, B.cut x.blk, by omega, by go_num, HGN.out⟩
               case measure => simp [intOf] <;> omega
             · subst hu1
               rw [HG4.out.st.fnd_over HR.out HU.out]
               rintro e w6 ⟨rfl, hto⟩
               have hOl : O.length = m := HG4.out.st.len.trans HM.out
               have hS6 := HG4.out.scr.to HG4.out.bel.size hto
               have hst6 := HG4.out.st
               have hb6 := HG4.out.scr.to_below HG4.out.bel HG4.out.bel.size hto
               rw [← hOl] at hS6
               have hS7 := hS6.set (k := k) 1
               have hb7 := hS6.set_below (k := k) hb6 1
               have oc0 : w6.cell? ⟨og, k, none⟩ = some (.int .i64 1) := by
                 rw [hS6.over.cellAt k (by omega), List.getElem?_map, HU.out]; rfl
               have of0 := hS6.over.frozenAt k
               rw [set_same HU.out, hOl] at hS7
               have HGN : Hid (Going w.heap.size w (w6.setCell ⟨og, k, none⟩ (.int .i64 1)) bp (.slice (some ⟨tg, 0, none⟩) m tc) (.slice (some ⟨og, 0, none⟩) m oc) T O B (j + 1)) := Lib.hid ⟨hS7, hst6, HG4.out.few.next, hb7, HG4.out.keys⟩
               clear hS6 hS7 hb6 hb7 hst6 hto CC hOl c0 c1 q0 q1
               go_wp2_with fail
               go_roundw
               case rel => exact ⟨j + 1, T, O, B, by omega, by go_num, HGN.out⟩
               case measure => simp [intOf] <;> omega
           · have d2 : decide (0 < (m : Int)) = false := decide_eq_false (by omega)
             clear hm hlen
             go_wp2_with fail
             go_roundw
             case rel => exact ⟨j + 1, T, O, B, by omega, by go_num, HG4.out.next⟩
             case measure => simp [intOf] <;> omega
         · by_cases hk3 : kind = 3
           · subst hk3
             obtain ⟨tA, tc, htv, htc⟩ := recsAt_own HG4.out.scr.told
             obtain ⟨oA, oc, hov, hoc⟩ := own_form HG4.out.scr.over
             have hlen := HG4.out.st.len
             have htl := HG4.out.few.T
             have HTC := Lib.hid htc
             have hlo := HG4.out.st.len
             clear hoc htc
             obtain ⟨m, hm⟩ : ∃ m, T.length = m := ⟨_, rfl⟩
             have HOO := Lib.hid HG4.out.scr.over
             rw [hlen, hm] at HOO
             rw [hm] at htv htl
             rw [hlen, hm] at hov
             have HM := Lib.hid hm
             have HLO := Lib.hid hlo
             subst htv
             subst hov
             clear hm hlen hlo
             go_wp2_with fail
             go_loopw [11, 12] (fun u x wk => ∃ k : Nat, k ≤ m ∧ x = .int .i64 k ∧ u = .int .i64 (goes hs hg T O k : Nat) ∧ wk.ownsRow w.heap.size 3 1 (.slice oA m oc) m ((leaveTo hs hg T O k).map (Value.int .i64)) ∧ But (fun b => (Value.slice oA m oc).ownBlock = some b) w4 wk) (fun _ x _ => m - (intOf x).toNat)
             case atStart => exact ⟨0, by omega, rfl, rfl, by rw [leaveTo_zero]; exact HOO.out, But.refl _ _⟩
             case round =>
               obtain ⟨k, hkm, rfl, rfl, hown, hbut⟩ := hrel
               have k0 : (0 : Int) ≤ (k : Int) := by omega
               have HO := Lib.hid hown
               have HB := Lib.hid hbut
               clear hown hbut q0 q1
               by_cases hkl : k < m
               · have d5 : decide ((k : Int) < (m : Int)) = true := decide_eq_true (by omega)
                 have k1 : (k : Int) < (m : Int) := by omega
                 obtain ⟨r, hr⟩ : ∃ r, T[k]? = some r := ⟨_, List.getElem?_eq_getElem (by rw [HM.out]; exact hkl)⟩
                 obtain ⟨u, hu⟩ : ∃ u, O[k]? = some u := ⟨_, List.getElem?_eq_getElem (by rw [HLO.out, HM.out]; exact hkl)⟩
                 have hlt := leaveTo_at hs hg HLO.out (show k < T.length by rw [HM.out]; exact hkl)
                 rw [hu] at hlt
                 obtain ⟨tg, htA, htgl, htcell⟩ := HTC.out k r hr
                 obtain ⟨A9, c9, he9, hoc⟩ := own_form HO.out
                 obtain ⟨og, hoA, oc0, of0⟩ := hoc k (.int .i64 u) (by rw [List.getElem?_map, hlt]; rfl)
                 have hA9 : oA = A9 := by injection he9
                 subst hA9
                 have htw := HB.out.block tg htgl (fun e => HG4.out.scr.d3 tg (by rw [htA]; rfl) e)
                 have c2 := htcell 2 (by omega)
                 have c3 := htcell 3 (by omega)
                 rw [← World.cell?_of_block htw] at c2 c3
                 change wr.cell? ⟨tg, k * 11 + 2, none⟩ = some (.int .u32 r.hs) at c2
                 change wr.cell? ⟨tg, k * 11 + 3, none⟩ = some (.int .u32 r.hg) at c3
                 subst htA
                 subst hoA
                 have hpw := HB.out.row HP4.out (fun e => Nat.lt_irrefl _ (HOP.out _ e))
                 have q6 := hpw.cell 6
                 have q7 := hpw.cell 7
                 simp only [List.getElem?_cons_zero, List.getElem?_cons_succ] at q6 q7
                 have e1 := fun w => run_eql_handle r.hs r.hg hs hg w
                 have HGS := Lib.hid (goes_step (hs := hs) (hg := hg) HLO.out hr hu)
                 have HLS := Lib.hid (leaveTo_step (hs := hs) (hg := hg) HLO.out hr hu)
                 have hgl : goes hs hg T O k ≤ 100000 := by
                   have h1 : goes hs hg T O k ≤ k := by
                     unfold goes
                     refine Nat.le_trans (List.length_filter_le _ _) (Nat.le_trans (liveOf_sub _ _).length_le ?_)
                     rw [List.length_take]; omega
                   omega
                 have HLT := Lib.hid hlt
                 have hzo := HG4.out.st.zo u (List.mem_of_getElem? hu)
                 clear hr hu hlt htcell hoc htw htgl hpw
                 by_cases hsm : sameH r.hs r.hg hs hg = true
                 · rw [hsm] at e1 HGS HLS
                   rcases hzo with rfl | rfl
                   · rw [if_pos ⟨rfl, rfl⟩] at HGS
                     rw [if_pos rfl] at HLS
                     clear hsm
                     go_wp2_with fail
                     go_quiet (fail)
                     have HO2 := Lib.hid (own_move (w' := wr.drewN nq) HO.out fun _ _ => rfl)
                     have HB2 := Lib.hid (HB.out.drewN nq)
                     have oc0 : (wr.drewN nq).cell? ⟨og, k, none⟩ = some (.int .i64 0) := oc0
                     have of0 : (wr.drewN nq).frozen? ⟨og, k, none⟩ = false := of0
                     clear c2 c3 q6 q7 HO HB
                     generalize wr.drewN nq = w6 at *
                     go_wp2_with fail
                     have hO3 := (HO2.out.stored k (.int .i64 1)).1
                     rw [← map_set', ← HLS.out] at hO3
                     have hB3 := HB2.out.set ⟨og, k, none⟩ (.int .i64 1) rfl
                     go_roundw
                     case rel => exact ⟨k + 1, by omega, by go_num, by rw [HGS.out]; go_num, hO3, hB3⟩
                     case measure => simp [intOf] <;> omega
                   · rw [if_neg (fun e => by cases e.2)] at HGS
                     rw [if_pos rfl, set_same HLT.out] at HLS
                     clear hsm
                     go_wp2_with fail
                     go_quiet (fail)
                     go_wp2_with fail
                     go_roundw
                     case rel => exact ⟨k + 1, by omega, by go_num, by rw [HGS.out]; rfl, by rw [HLS.out]; exact own_move (w' := wr.drewN nq) HO.out fun _ _ => rfl, HB.out.drewN nq⟩
                     case measure => simp [intOf] <;> omega
                 · have hsm2 : sameH r.hs r.hg hs hg = false := by rw [← Bool.not_eq_true]; exact hsm
                   have hsame : (leaveTo hs hg T O k).set k u = leaveTo hs hg T O k := by
                     refine List.ext_getElem? fun q => ?_
                     by_cases e : k = q
                     · subst e; rw [getElem?_set_same (List.getElem?_eq_some_iff.1 HLT.out).1, HLT.out]
                     · rw [getElem?_set_other e]
                   rw [if_neg (fun e => hsm e.1)] at HGS
                   rw [if_neg hsm, hsame] at HLS
                   rw [hsm2] at e1
                   clear hsm hsame
                   go_wp2_with fail
                   go_quiet (fail)
                   go_wp2_with fail
                   go_roundw
                   case rel => exact ⟨k + 1, by omega, by go_num, by rw [HGS.out]; rfl, by rw [HLS.out]; exact own_move (w' := wr.drewN nq) HO.out fun _ _ => rfl, HB.out.drewN nq⟩
                   case measure => simp [intOf] <;> omega
               · have hkm' : k = m := by omega
                 have d5 : decide ((k : Int) < (m : Int)) = false := decide_eq_false (by omega)
                 subst hkm'
                 have hov := HO.out
                 rw [← HM.out, leaveTo_all hs hg HLO.out] at hov
                 have hScr : Scr w.heap.size wr bp B (.slice tA T.length tc) (.slice oA (leaveO hs hg T O).length oc) T (leaveO hs hg T O) := by
                   have h4 := HG4.out.scr
                   have el : (leaveO hs hg T O).length = k := (leaveO_len hs hg T O HLO.out).trans HM.out
                   refine ⟨h4.book.but HB.out fun b hb e => h4.d2 b e hb, ?_, ?_, h4.up, ?_, ?_, ?_⟩
                   · rw [HM.out]
                     have := h4.told
                     rw [HM.out] at this
                     exact own_move this fun g hg => HB.out.block g (this.lt g hg).2 (fun e => h4.d3 g hg e)
                   · rw [leaveO_len hs hg T O HLO.out]; exact hov
                   · rw [HM.out]; exact h4.d1
                   · rw [el]; exact h4.d2
                   · rw [el, HM.out]; exact h4.d3
                 have hbel : Below w.heap.size w wr := But.below HG4.out.bel HB.out HG4.out.bel.size fun b e => (HO.out.lt b e).1
                 have hpw := HB.out.row HP4.out (fun e => Nat.lt_irrefl _ (HOP.out _ e))
                 have q6 := hpw.cell 6
                 have q7 := hpw.cell 7
                 simp only [List.getElem?_cons_zero, List.getElem?_cons_succ] at q6 q7
                 have hNl := HG4.out.few.N
                 have CL := Lib.hid (leave_c bp B hs hg wr hScr.book (by omega))
                 have hga := HG4.out.st.goes_all hs hg
                 rw [HM.out] at hga
                 unfold LeaveTo at CL
                 rw [← hga] at CL
                 have HSC := Lib.hid hScr
                 have HBE := Lib.hid hbel
                 clear hov hScr hbel hpw hga
                 go_wp2_with fail
                 refine CL.out.mono ?_
                 rintro e w6 ⟨rfl, hto⟩
                 have hS6 := HSC.out.to HBE.out.size hto
                 have hb6 := HSC.out.to_below HBE.out HBE.out.size hto
                 have hfew : Few (B.left hs hg) T (j + 1) := by
                   obtain ⟨a1, a2, a3, a4, a5⟩ := HG4.out.few
                   exact ⟨Nat.le_succ_of_le a1, by change B.put ≤ _; omega, Nat.le_succ_of_le a3, Nat.le_trans (List.length_filter_le _ _) (Nat.le_succ_of_le a4), Nat.le_succ_of_le a5⟩
                 rw [leaveO_len hs hg T O HLO.out, HM.out] at hS6
                 have HGN : Hid (Going w.heap.size w w6 bp (.slice tA k tc) (.slice oA k oc) T (leaveO hs hg T O) (B.left hs hg) (j + 1)) := Lib.hid ⟨hS6, HG4.out.st.leave hs hg, hfew, hb6, HG4.out.keys⟩
                 clear hS6 hb6 hfew hto CL q6 q7
                 go_wp2_with fail
                 go_roundw
                 case rel => exact ⟨j + 1, T, leaveO hs hg T O, B.left hs hg, by omega, by go_num, HGN.out⟩
                 case measure => simp [intOf] <;> omega
           · have q2 := HP4.out.cell 2
             have q3 := HP4.out.cell 3
             have q4 := HP4.out.cell 4
             have q5 := HP4.out.cell 5
             have q6 := HP4.out.cell 6
             have q7 := HP4.out.cell 7
             have q11 := HP4.out.cell 11
             have q12 := HP4.out.cell 12
             have q13 := HP4.out.cell 13
             simp only [List.getElem?_cons_zero, List.getElem?_cons_succ] at q2 q3 q4 q5 q6 q7 q11 q12 q13
             have hfe := HG4.out.few
             have CU := Lib.hid (put_c bp B ⟨oos, og, sd⟩ hs hg arm vn vs vg w4 HG4.out.scr.book ⟨⟨HOK.out.os, HOK.out.og, HOK.out.sd⟩, HOK.out.hs, HOK.out.hg, HOK.out.arm, HOK.out.vn, HOK.out.vs, HOK.out.vg⟩ (by have := hfe.gens; omega) (by have := hfe.put; omega) (by have := hfe.mn; omega) (by have := hfe.N; omega))
             have d7 : decide (kind = 2) = false := decide_eq_false hk2
             have d8 : decide (kind = 3) = false := decide_eq_false hk3
             clear hfe
             go_wp2_with fail
             refine CU.out.mono ?_
             intro e w6 hpa
             unfold PutAns at hpa
             cases hpe : putErr B.N ⟨oos, og, sd⟩ hs hg arm with
             | some er =>
               rw [hpe] at hpa
               obtain ⟨rfl, hto⟩ := hpa
               have hne := putErr_ne hpe
               have d9 : decide (er = 0) = false := decide_eq_false hne
               have hGN : Going w.heap.size w w6 bp u5 u6 T O B (j + 1) := ⟨HG4.out.scr.to HG4.out.bel.size hto, HG4.out.st, HG4.out.few.next, HG4.out.scr.to_below HG4.out.bel HG4.out.bel.size hto, HG4.out.keys⟩
               have HGN : Hid (Going w.heap.size w (w6.alloc (.cells #[.int .u32 0, .int .u32 0] 41)) bp u5 u6 T O B (j + 1)) := Lib.hid (hGN.below hGN.bel.size ((Below.refl _ _).alloc (Nat.le_refl _) _))
               clear hGN hto hpe CU
               unfold putV
               go_wp2_with fail
               go_roundw
               case rel => exact ⟨j + 1, T, O, B, by omega, by go_num, HGN.out⟩
               case measure => simp [intOf] <;> omega
             | none =>
               rw [hpe] at hpa
               obtain ⟨i, B', x, g, rfl, hto, hN, hser, hput, hmn, hrc, hgi, hgens, hsl, _⟩ := hpa
               have hxs : 0 ≤ x.ser := by have := HG4.out.scr.book.ok.fewp; omega
               obtain ⟨hst, hhas⟩ := HG4.out.st.put hN (i := i) (g := g) (by rw [hrc]) (by rw [hrc]) hgi hgens hxs
               have hS6 := HG4.out.scr.to HG4.out.bel.size hto
               have hb6 := HG4.out.scr.to_below HG4.out.bel HG4.out.bel.size hto
               have hP6 := hto.but.row HP4.out (fun e => Nat.lt_irrefl _ (HOB.out _ e))
               have hfew : Few B' (T ++ [x.rc]) (j + 1) := by
                 obtain ⟨a1, a2, a3, a4, a5⟩ := HG4.out.few
                 refine ⟨?_, by rw [hput]; omega, Nat.le_trans hmn (Nat.succ_le_succ a3), by rw [hN, List.length_append]; exact Nat.succ_le_succ a4, by rw [List.length_append]; exact Nat.succ_le_succ a5⟩
                 rw [hgens, List.length_set]
                 unfold grow
                 split
                 · omega
                 · rw [List.length_append]; exact Nat.succ_le_succ a1
               obtain ⟨ma, hma⟩ : ∃ ma, x.rc.ms = ma := ⟨_, rfl⟩
               obtain ⟨mb, hmb⟩ : ∃ mb, x.rc.mg = mb := ⟨_, rfl⟩
               have hcl : x.rc.cells = [.int .u32 ma, .int .u32 mb, .int .u32 hs, .int .u32 hg, .int .u32 oos, .int .u32 og, .int .i64 sd, .int .i64 arm, .int .i64 vn, .int .u32 vs, .int .u32 vg] := by rw [← hma, ← hmb, hrc]; rfl
               have htl : T.length ≤ 600 := Nat.le_trans HG4.out.few.T (by omega)
               have hol : O.length = T.length := HG4.out.st.len
               rw [hma, hmb] at hhas ⊢
               obtain ⟨rr, hrr⟩ : ∃ rr, x.rc = rr := ⟨_, rfl⟩
               rw [hrr] at hst hfew hcl
               have HKY : Hid (∀ q ∈ T ++ [rr], q.key.Ok) := Lib.hid fun q hq => (List.mem_append.1 hq).elim (HG4.out.keys q) (fun e => by rw [List.mem_singleton.1 e, ← hrr, hrc]; exact ⟨HOK.out.os, HOK.out.og, HOK.out.sd⟩)
               have HST := Lib.hid hst
               have HS6 := Lib.hid hS6
               have HB6 := Lib.hid hb6
               have HP6 := Lib.hid hP6
               have HFE := Lib.hid hfew
               have HCL := Lib.hid hcl
               have HHA := Lib.hid hhas
               have HTL := Lib.hid htl
               have HOL := Lib.hid hol
               clear hst hS6 hb6 hP6 hfew hcl hhas htl hol hrr hma hmb hrc hgi hgens hsl hxs hto hN hser hput hmn hpe CU q0 q1 q2 q3 q4 q5 q6 q7 q11 q12 q13
               have hA7 : Go.RowKit.Below w6.heap.size w6 (w6.alloc (.cells #[.int .u32 ma, .int .u32 mb] 41)) := (Go.RowKit.Below.refl _ _).alloc (Nat.le_refl _) _
               have HZ7 := Lib.hid (Row.new w6 41 [.int .u32 ma, .int .u32 mb])
               change Hid (Row (w6.alloc (.cells #[.int .u32 ma, .int .u32 mb] 41)) _ _ _) at HZ7
               have HS7 := Lib.hid (HS6.out.below hA7)
               have HP7 := Lib.hid (HP6.out.below hA7 HP6.out.lt)
               have HB7 : Hid (Go.RowKit.Below w.heap.size w (w6.alloc (.cells #[.int .u32 ma, .int .u32 mb] 41))) := Lib.hid (HB6.out.trans (hA7.mono HB6.out.size))
               clear hA7
               unfold putV
               go_wp2_with fail
               generalize w6.alloc (.cells #[.int .u32 ma, .int .u32 mb] 41) = w7 at *
               generalize w6.heap.size = zb at *
               clear HS6 HP6 HB6
               have CHS := Lib.hid (has_c u5 T ma mb w7 (recsAt_own HS7.out.told) (Nat.le_trans HTL.out (by omega)))
               rw [HHA.out] at CHS
               refine CHS.out.mono ?_
               rintro e w8 ⟨rfl, hb8⟩
               clear CHS
               have HZ8 := Lib.hid (HZ7.out.below hb8 HZ7.out.lt)
               have HS8 := Lib.hid (HS7.out.below hb8)
               have HP8 := Lib.hid (HP7.out.below hb8 HP7.out.lt)
               have HB8 : Hid (Go.RowKit.Below w.heap.size w w8) := Lib.hid (HB7.out.trans (hb8.mono HB7.out.size))
               clear hb8 HZ7 HS7 HP7 HB7
               have q2 := HP8.out.cell 2
               have q3 := HP8.out.cell 3
               have q4 := HP8.out.cell 4
               have q5 := HP8.out.cell 5
               have q6 := HP8.out.cell 6
               have q7 := HP8.out.cell 7
               have q11 := HP8.out.cell 11
               have q12 := HP8.out.cell 12
               have q13 := HP8.out.cell 13
               have s0 := HZ8.out.cell 0
               have s1 := HZ8.out.cell 1
               simp only [List.getElem?_cons_zero, List.getElem?_cons_succ] at q2 q3 q4 q5 q6 q7 q11 q12 q13 s0 s1
               obtain ⟨k0, hki, hkz0, hkz1, hkz2⟩ := info_parts infoRec
               obtain ⟨i0, hii, hiz0, hiz1, hiz2⟩ := info_parts infoInt
               obtain ⟨tn, htn⟩ : ∃ tn, T.length = tn := ⟨_, rfl⟩
               have HTN := Lib.hid htn
               have htl := HTL.out
               rw [htn] at htl
               have hto8 := HS8.out.told
               rw [htn] at hto8
               have HTO8 := Lib.hid hto8
               clear hto8 htn
               have hb08 := HB8.out.size
               go_upto_region 17 with (first
                 | (at_builtin; refine wpList_append_own_at _ rfl _ _ 28 rfl w.heap.size 57 k0 (.agg #[.int .u32 0, .int .u32 0, .int .u32 0, .int .u32 0, .int .u32 0, .int .u32 0, .int .i64 0, .int .i64 0, .int .i64 0, .int .u32 0, .int .u32 0]) 11 56 Try.underlying28 hki hkz0 hkz1 hkz2 rfl (by decide) _ tn (recs T) rfl (World.ownsRow.alloc HTO8.out _) ⟨w8.heap.size, 0, none⟩ 1 1 [.int .u32 ma, .int .u32 mb, .int .u32 hs, .int .u32 hg, .int .u32 oos, .int .u32 og, .int .i64 sd, .int .i64 arm, .int .i64 vn, .int .u32 vs, .int .u32 vg] rfl rfl ?c1 ?c2 ?c3 ?c4 ?c5 ?_)
                 | go_in)
               case c1 =>
                 intro q u hq
                 rw [add_zero]
                 exact ((Row.new w8 57 [.int .u32 ma, .int .u32 mb, .int .u32 hs, .int .u32 hg, .int .u32 oos, .int .u32 og, .int .i64 sd, .int .i64 arm, .int .i64 vn, .int .u32 vs, .int .u32 vg]).cell q).trans hq
               case c2 => intro u hu; simp at hu; rcases hu with rfl | rfl | rfl | rfl | rfl | rfl | rfl | rfl | rfl | rfl | rfl <;> rfl
               case c3 => unfold maxLen; omega
               case c4 => omega
               case c5 => first | omega | (simp; omega)
               intro v' w9 hown' hgrow _ hat
               have hgr : w8.grownBy w9 u5.ownBlock := (World.grownBy_alloc w8 _ _).trans hgrow
               have hS9 : Scr w.heap.size w9 bp B' v' u6 (T ++ [rr]) O := HS8.out.tell hb08 rr hgr (by rw [HTN.out, HCL.out]; exact hown') (hat.imp id (fun e => ⟨_, e, by simp⟩))
               have hB9 : Go.RowKit.Below w.heap.size w w9 := HB8.out.grown hgr hb08 (fun q e => (HS8.out.told.lt q e).1)
               have HS9 := Lib.hid hS9
               have HB9 := Lib.hid hB9
               clear hown' hgrow hat hgr hS9 hB9 HS8 HP8 HZ8 HB8 q2 q3 q4 q5 q6 q7 q11 q12 q13 s0 s1 HTO8 hb08
               obtain ⟨on, hon⟩ : ∃ on, O.length = on := ⟨_, rfl⟩
               have HON := Lib.hid hon
               have hol : on ≤ 600 := by rw [← hon, HOL.out]; exact HTL.out
               have hov9 := HS9.out.over
               rw [hon] at hov9
               have HOV9 := Lib.hid hov9
               have hb09 := HB9.out.size
               clear hov9 hon
               go_wp2_with (first
                 | (at_builtin; refine wpList_append_own_at _ rfl _ _ 29 rfl w.heap.size 3 i0 (.int .i64 0) 1 8 Try.underlying29 hii hiz0 hiz1 hiz2 rfl (by decide) _ on (O.map (Value.int .i64)) rfl (World.ownsRow.alloc HOV9.out _) ⟨w9.heap.size, 0, none⟩ 1 1 [.int .i64 0] rfl rfl ?d1 ?d2 ?d3 ?d4 ?d5 ?_)
                 | go_in)
               case d1 =>
                 intro q u hq
                 rw [add_zero]
                 exact ((Row.new w9 3 [.int .i64 0]).cell q).trans hq
               case d2 => intro u hu; simp at hu; subst hu; rfl
               case d3 => unfold maxLen; omega
               case d4 => omega
               case d5 => first | omega | (simp; omega)
               intro v2 w10 hown' hgrow _ hat
               have hgr : w9.grownBy w10 u6.ownBlock := (World.grownBy_alloc w9 _ _).trans hgrow
               have hS10 : Scr w.heap.size w10 bp B' v' v2 (T ++ [rr]) (O ++ [0]) := HS9.out.overs hb09 0 hgr (by rw [HON.out]; exact hown') (hat.imp id (fun e => ⟨_, e, by simp⟩))
               have hB10 : Go.RowKit.Below w.heap.size w w10 := HB9.out.grown hgr hb09 (fun q e => (HS9.out.over.lt q e).1)
               have HGN : Hid (Going w.heap.size w w10 bp v' v2 (T ++ [rr]) (O ++ [0]) B' (j + 1)) := Lib.hid ⟨hS10, HST.out, HFE.out, hB10, HKY.out⟩
               clear hown' hgrow hat hgr hS10 hB10 HS9 HB9 HOV9 hb09 hol
               go_wp2_with fail
               go_roundw
               case rel => exact ⟨j + 1, T ++ [rr], O ++ [0], B', by omega, by go_num, HGN.out⟩
               case measure => simp [intOf] <;> omega
       · have d0 : decide ((j : Int) < (n : Int)) = true := decide_eq_true (by omega)
         have d1 : decide ((j : Int) < 600) = false := decide_eq_false (by omega)
         go_wp2_with fail
         go_meet
         case rel => exact ⟨T, O, B, j, hj, HGO.out⟩
     · have d0 : decide ((j : Int) < (n : Int)) = false := decide_eq_false (by omega)
       go_wp2_with fail
       go_meet
       case rel => exact ⟨T, O, B, j, hj, HGO.out⟩
  case rest => as_aux_lemma =>
    obtain ⟨T, O, B, j, hj6, hgo⟩ := hcut
    obtain ⟨w3, hw3⟩ : ∃ w3, w3 = wc := ⟨_, rfl⟩
    subst hw3
    obtain ⟨tA, tc, htv, htc⟩ := recsAt_own hgo.scr.told
    obtain ⟨oA, oc, hov, hoc⟩ := own_form hgo.scr.over
    have HGO := Lib.hid hgo
    have HTC := Lib.hid htc
    have HOC := Lib.hid hoc
    have HTL := Lib.hid (Nat.le_trans hgo.few.T hj6)
    have hol := hgo.st.len
    have HBK := Lib.hid hgo.scr.book
    have HST := Lib.hid hgo.st
    have HNL : Hid (B.N.length ≤ 100000) := Lib.hid (Nat.le_trans hgo.few.N (Nat.le_trans hj6 (by omega)))
    have HBE := Lib.hid hgo.bel
    have HKE := Lib.hid hgo.keys
    clear htc hoc hgo HGO
    obtain ⟨m, hm⟩ : ∃ m, T.length = m := ⟨_, rfl⟩
    have HM := Lib.hid hm
    rw [hm] at htv
    rw [hol, hm] at hov
    have HOL := Lib.hid hol
    have hml : m ≤ 600 := by rw [← hm]; exact HTL.out
    clear hm hol
    subst htv
    subst hov
    go_wp2_with fail
    go_loopw [15] (fun x wr => ∃ k : Nat, k ≤ m ∧ x = .int .i64 k ∧ Go.RowKit.Below w3.heap.size w3 wr) (fun x _ => m - (intOf x).toNat)
    case atStart => exact ⟨0, by omega, rfl, Go.RowKit.Below.refl _ _⟩
    case round =>
      obtain ⟨k, hkm, rfl, hb⟩ := hrel
      have k0 : (0 : Int) ≤ (k : Int) := by omega
      by_cases hkl : k < m
      · have d0 : decide ((k : Int) < (m : Int)) = true := decide_eq_true (by omega)
        obtain ⟨r, hr⟩ : ∃ r, T[k]? = some r := ⟨_, List.getElem?_eq_getElem (by rw [HM.out]; exact hkl)⟩
        obtain ⟨u, hu⟩ : ∃ u, O[k]? = some u := ⟨_, List.getElem?_eq_getElem (by rw [HOL.out, HM.out]; exact hkl)⟩
        obtain ⟨tg, htA, htgl, htcell⟩ := HTC.out k r hr
        obtain ⟨og, hoA, oc0, _⟩ := HOC.out k (.int .i64 u) (by rw [List.getElem?_map, hu]; rfl)
        have hogl := cell_lt oc0
        have HB := Lib.hid hb
        have HR := Lib.hid hr
        have HU := Lib.hid hu
        have ocr : wr.cell? ⟨og, k, none⟩ = some (.int .i64 u) := (hb.cell (p := ⟨og, k, none⟩) hogl).trans oc0
        have htr : ∀ i, i < 11 → wr.cell? ⟨tg, k * 11 + i, none⟩ = r.cells[i]? := fun i hi => (hb.cell (p := ⟨tg, k * 11 + i, none⟩) htgl).trans (htcell i hi)
        have c0 : wr.cell? ⟨tg, k * 11, none⟩ = some (.int .u32 r.ms) := htr 0 (by omega)
        have c1 : wr.cell? ⟨tg, k * 11 + 1, none⟩ = some (.int .u32 r.mg) := htr 1 (by omega)
        have c2 : wr.cell? ⟨tg, k * 11 + 2, none⟩ = some (.int .u32 r.hs) := htr 2 (by omega)
        have c3 : wr.cell? ⟨tg, k * 11 + 3, none⟩ = some (.int .u32 r.hg) := htr 3 (by omega)
        have c4 : wr.cell? ⟨tg, k * 11 + 4, none⟩ = some (.int .u32 r.os) := htr 4 (by omega)
        have c5 : wr.cell? ⟨tg, k * 11 + 5, none⟩ = some (.int .u32 r.og) := htr 5 (by omega)
        have c6 : wr.cell? ⟨tg, k * 11 + 6, none⟩ = some (.int .i64 r.sd) := htr 6 (by omega)
        have c7 : wr.cell? ⟨tg, k * 11 + 7, none⟩ = some (.int .i64 r.arm) := htr 7 (by omega)
        have c8 : wr.cell? ⟨tg, k * 11 + 8, none⟩ = some (.int .i64 r.vn) := htr 8 (by omega)
        have c9 : wr.cell? ⟨tg, k * 11 + 9, none⟩ = some (.int .u32 r.vs) := htr 9 (by omega)
        have c10 : wr.cell? ⟨tg, k * 11 + 10, none⟩ = some (.int .u32 r.vg) := htr 10 (by omega)
        have HTG := Lib.hid htgl
        obtain ⟨i9, g9, hri, hrg, hrl⟩ := HST.out.old r (List.mem_of_getElem? hr)
        have hms : 0 ≤ r.ms ∧ r.ms < 4294967296 := by
          have h1 := (List.getElem?_eq_some_iff.1 hrg).1
          have h2 := HBK.out.ok.few
          omega
        have CG := Lib.hid (get_c bp B r.ms r.mg wr (HBK.out.below hb) hms)
        have hu2 : u = 0 ∨ u = 1 := HST.out.zo u (List.mem_of_getElem? hu)
        obtain ⟨W, hW⟩ : ∃ W, 1 - u = W := ⟨_, rfl⟩
        have hww : IntKind.i64.wrap (1 - u) = W := by rw [← hW]; rcases hu2 with rfl | rfl <;> rfl
        obtain ⟨y, er, hget, hcase⟩ : ∃ (y : Rc) (er : Int), getV (fnd B.N r.ms r.mg) = .tuple #[y.agg, .int .i64 er] ∧ (W = 1 ∧ er = 0 ∧ y = r ∨ W = 0 ∧ er = 111) := by
          rcases hu2 with rfl | rfl
          · obtain ⟨x, hf, _, hxr⟩ := HST.out.fnd_live HBK.out.ok hr hu
            exact ⟨r, 0, by rw [hf]; simp [getV, hxr], .inl ⟨by omega, rfl, rfl⟩⟩
          · exact ⟨zeroRc, 111, by rw [HST.out.fnd_over hr hu]; rfl, .inr ⟨by omega, rfl⟩⟩
        rw [hget] at CG
        have hH : ∀ p : Rc → Bool, p r = true → ((hasN ((liveOf T O).filter p) r.ms r.mg : Nat) : Int) = W := fun p hp => by rw [HST.out.has hr hu p hp, hW]
        have hHR : ((hasN ((inRow r.key B.N).map (·.rc)) r.ms r.mg : Nat) : Int) = W := by rw [HST.out.rowL]; exact hH _ (decide_eq_true rfl)
        have hHO : ((hasN ((B.N.filter fun x => sameH x.rc.hs x.rc.hg r.hs r.hg).map (·.rc)) r.ms r.mg : Nat) : Int) = W := by rw [HST.out.ofL]; exact hH _ (sameH_iff.2 ⟨rfl, rfl⟩)
        have hHA : ((hasN (B.N.map (·.rc)) r.ms r.mg : Nat) : Int) = W := by
          have := hH (fun _ => true) rfl
          rw [HST.out.live]
          rwa [List.filter_eq_self.2 (fun _ _ => rfl)] at this
        have hKO : r.key.Ok := HKE.out r (List.mem_of_getElem? hr)
        have CR := Lib.hid (fun w' hw' => row_c bp B r.key w' ((HBK.out.below hw')) hKO HNL.out)
        have CO := Lib.hid (fun w' hw' => of_c bp B r.hs r.hg w' (HBK.out.below hw') HST.out.ser)
        have CA := Lib.hid (fun w' hw' => all_c bp B w' (HBK.out.below hw') HST.out.ser)
        have CF := Lib.hid (fun w' hw' => first_c bp B r.key w' (HBK.out.below hw') hKO)
        have HTK : Hid (∀ w', Go.RowKit.Below w3.heap.size w3 w' → ∀ i, i < 11 → w'.cell? ⟨tg, k * 11 + i, none⟩ = r.cells[i]?) := Lib.hid fun w' hb i hi => (hb.cell (p := ⟨tg, k * 11 + i, none⟩) htgl).trans (htcell i hi)
        obtain ⟨LR, hLR⟩ : ∃ LR, (inRow r.key B.N).map (·.rc) = LR := ⟨_, rfl⟩
        have HRL : Hid ((liveOf T O).filter (fun q => decide (q.key = r.key)) = LR) := Lib.hid (by rw [← hLR, HST.out.rowL])
        have HHD : Hid ((inRow r.key B.N).head?.map (·.rc) = LR.head?) := Lib.hid (by rw [← hLR, List.head?_map])
        have hlr : LR.length ≤ 100000 := by rw [← hLR, List.length_map]; exact Nat.le_trans (inRow_sub _ _).length_le HNL.out
        rw [hLR] at hHR
        have CR2 : Hid (∀ w', Go.RowKit.Below w3.heap.size w3 w' → Calls Try.prog 19 #[.pointer (some ⟨bp, 0, none⟩), .agg #[.int .u32 r.key.s, .int .u32 r.key.g, .int .i64 r.key.d]] w' (RecsOut w' LR)) := Lib.hid fun w' hw' => by rw [← hLR]; exact CR.out w' hw'
        obtain ⟨LO, hLO⟩ : ∃ LO, (B.N.filter fun x => sameH x.rc.hs x.rc.hg r.hs r.hg).map (·.rc) = LO := ⟨_, rfl⟩
        have hlo : LO.length ≤ 100000 := by rw [← hLO, List.length_map]; exact Nat.le_trans (List.length_filter_le _ _) HNL.out
        rw [hLO] at hHO
        have CO2 : Hid (∀ w', Go.RowKit.Below w3.heap.size w3 w' → Calls Try.prog 20 #[.pointer (some ⟨bp, 0, none⟩), .agg #[.int .u32 r.hs, .int .u32 r.hg]] w' (RecsOut w' LO)) := Lib.hid fun w' hw' => by rw [← hLO]; exact CO.out w' hw'
        obtain ⟨LA, hLA⟩ : ∃ LA, B.N.map (·.rc) = LA := ⟨_, rfl⟩
        have hla : LA.length ≤ 100000 := by rw [← hLA, List.length_map]; exact HNL.out
        rw [hLA] at hHA
        have CA2 : Hid (∀ w', Go.RowKit.Below w3.heap.size w3 w' → Calls Try.prog 12 #[.pointer (some ⟨bp, 0, none⟩)] w' (RecsOut w' LA)) := Lib.hid fun w' hw' => by rw [← hLA]; exact CA.out w' hw'
        have hlb : LR.length ≤ 100000 ∧ LO.length ≤ 100000 ∧ LA.length ≤ 100000 := ⟨hlr, hlo, hla⟩
        have CH : Hid (∀ (L : List Rc) (v : Value) (w' : World), RecsAt w' v L → (L = LR ∨ L = LO ∨ L = LA) → Calls Try.prog 17 #[v, .agg #[.int .u32 r.ms, .int .u32 r.mg]] w' fun e w'' => e = .returned (.int .i64 W) ∧ Go.RowKit.Below w'.heap.size w' w'') := Lib.hid fun L v w' hv hL => by
          have h1 : L.length ≤ 100000 := hL.elim (fun e => e ▸ hlb.1) fun h => h.elim (fun e => e ▸ hlb.2.1) (fun e => e ▸ hlb.2.2)
          have h2 : ((hasN L r.ms r.mg : Nat) : Int) = W := hL.elim (fun e => e ▸ hHR) fun h => h.elim (fun e => e ▸ hHO) (fun e => e ▸ hHA)
          rw [← h2]; exact has_c v L r.ms r.mg w' hv h1
        subst htA
        subst hoA
        have HCS := Lib.hid hcase
        have HMS := Lib.hid hms
        clear hget hH hHR hHO hHA hLR hLO hLA hlb hlr hlo hla hW hri hrg hrl hms htr htcell hr hu oc0 hogl CR CO CA hcase hKO hb hu2
        obtain ⟨r0, r1, r2, r3, r4, r5, r6, r7, r8, r9, r10⟩ := r
        obtain ⟨y0, y1, y2, y3, y4, y5, y6, y7, y8, y9, y10⟩ := y
        simp only [Rc.agg, Rc.cells, Rc.key] at CG CR2 CO2 CF CH HTK HRL HHD HMS
        clear c0 c1 c2 c3 c4 c5 c6 c7 c8 c9 c10
        have c0 : wr.cell? ⟨tg, k * 11, none⟩ = some (.int .u32 r0) := HTK.out _ HB.out 0 (by omega)
        have c1 : wr.cell? ⟨tg, k * 11 + 1, none⟩ = some (.int .u32 r1) := HTK.out _ HB.out 1 (by omega)
        go_wp2_with fail
        refine CG.out.mono ?_
        rintro e w5 ⟨rfl, hb5⟩
        clear CG c0 c1 ocr
        have hA6 : Go.RowKit.Below w5.heap.size w5 (w5.alloc (.cells #[.int .u32 y0, .int .u32 y1, .int .u32 y2, .int .u32 y3, .int .u32 y4, .int .u32 y5, .int .i64 y6, .int .i64 y7, .int .i64 y8, .int .u32 y9, .int .u32 y10] 57)) := (Go.RowKit.Below.refl _ _).alloc (Nat.le_refl _) _
        have HB5 : Hid (Go.RowKit.Below w3.heap.size w3 w5) := Lib.hid (HB.out.trans (hb5.mono HB.out.size))
        have HB6 : Hid (Go.RowKit.Below w3.heap.size w3 (w5.alloc (.cells #[.int .u32 y0, .int .u32 y1, .int .u32 y2, .int .u32 y3, .int .u32 y4, .int .u32 y5, .int .i64 y6, .int .i64 y7, .int .i64 y8, .int .u32 y9, .int .u32 y10] 57))) := Lib.hid (HB5.out.trans (hA6.mono HB5.out.size))
        have HX6 := Lib.hid (Row.new w5 57 [.int .u32 y0, .int .u32 y1, .int .u32 y2, .int .u32 y3, .int .u32 y4, .int .u32 y5, .int .i64 y6, .int .i64 y7, .int .i64 y8, .int .u32 y9, .int .u32 y10])
        change Hid (Row (w5.alloc (.cells #[.int .u32 y0, .int .u32 y1, .int .u32 y2, .int .u32 y3, .int .u32 y4, .int .u32 y5, .int .i64 y6, .int .i64 y7, .int .i64 y8, .int .u32 y9, .int .u32 y10] 57)) _ _ _) at HX6
        have c4 : (w5.alloc (.cells #[.int .u32 y0, .int .u32 y1, .int .u32 y2, .int .u32 y3, .int .u32 y4, .int .u32 y5, .int .i64 y6, .int .i64 y7, .int .i64 y8, .int .u32 y9, .int .u32 y10] 57)).cell? ⟨tg, k * 11 + 4, none⟩ = some (.int .u32 r4) := HTK.out _ HB6.out 4 (by omega)
        have c5 : (w5.alloc (.cells #[.int .u32 y0, .int .u32 y1, .int .u32 y2, .int .u32 y3, .int .u32 y4, .int .u32 y5, .int .i64 y6, .int .i64 y7, .int .i64 y8, .int .u32 y9, .int .u32 y10] 57)).cell? ⟨tg, k * 11 + 4 + 1, none⟩ = some (.int .u32 r5) := HTK.out _ HB6.out 5 (by omega)
        have c6 : (w5.alloc (.cells #[.int .u32 y0, .int .u32 y1, .int .u32 y2, .int .u32 y3, .int .u32 y4, .int .u32 y5, .int .i64 y6, .int .i64 y7, .int .i64 y8, .int .u32 y9, .int .u32 y10] 57)).cell? ⟨tg, k * 11 + 4 + 2, none⟩ = some (.int .i64 r6) := HTK.out _ HB6.out 6 (by omega)
        clear hb5 hA6
        go_wp2_with fail
        generalize w5.alloc (.cells #[.int .u32 y0, .int .u32 y1, .int .u32 y2, .int .u32 y3, .int .u32 y4, .int .u32 y5, .int .i64 y6, .int .i64 y7, .int .i64 y8, .int .u32 y9, .int .u32 y10] 57) = w6 at *
        generalize w5.heap.size = xb at *
        clear c4 c5 c6 HB5
        refine (CR2.out w6 HB6.out).mono ?_
        rintro e w7 ⟨v7, rfl, ho7, hb7⟩
        have HB7 : Hid (Go.RowKit.Below w3.heap.size w3 w7) := Lib.hid (HB6.out.trans (hb7.mono HB6.out.size))
        have HX7 := Lib.hid (HX6.out.below hb7 HX6.out.lt)
        obtain ⟨A7, cap7, hv7, hc7⟩ := recsAt_own ho7
        have hv7' : RecsAt w7 v7 LR := recsAt_own ho7
        obtain ⟨ln, hln⟩ : ∃ ln, LR.length = ln := ⟨_, rfl⟩
        rw [hln] at hv7
        subst hv7
        have HC7 := Lib.hid hc7
        have HV7 := Lib.hid hv7'
        have HLN := Lib.hid hln
        clear ho7 hb7 hc7 hv7' hln HX6
        have c2 : w7.cell? ⟨tg, k * 11 + 2, none⟩ = some (.int .u32 r2) := HTK.out _ HB7.out 2 (by omega)
        have c3 : w7.cell? ⟨tg, k * 11 + 2 + 1, none⟩ = some (.int .u32 r3) := HTK.out _ HB7.out 3 (by omega)
        go_wp2_with fail
        clear c2 c3
        refine (CO2.out w7 HB7.out).mono ?_
        rintro e w8 ⟨v8, rfl, ho8, hb8⟩
        have HB8 : Hid (Go.RowKit.Below w3.heap.size w3 w8) := Lib.hid (HB7.out.trans (hb8.mono HB7.out.size))
        have HX8 := Lib.hid (HX7.out.below hb8 HX7.out.lt)
        have HV7b : Hid (RecsAt w8 (.slice A7 ln cap7) LR) := Lib.hid (HV7.out.move (fun q _ hq => hb8.block q hq) hb8.size)
        have HC7b : Hid (∀ i q, LR[i]? = some q → ∃ g, A7 = some ⟨g, 0, none⟩ ∧ g < w8.heap.size ∧ ∀ k, k < 11 → w8.cell? ⟨g, i * 11 + k, none⟩ = q.cells[k]?) := Lib.hid (fun i q hq => by
          obtain ⟨g, e1, e2, e3⟩ := HC7.out i q hq
          exact ⟨g, e1, Nat.lt_of_lt_of_le e2 hb8.size, fun k hk => (hb8.cell (p := ⟨g, i * 11 + k, none⟩) e2).trans (e3 k hk)⟩)
        have HV8 : Hid (RecsAt w8 v8 LO) := Lib.hid (recsAt_own ho8)
        clear ho8 hb8 HV7 HC7 HX7
        go_upto_region 42 with fail
        have HS8 := HB8.out
        go_cut [19, 231] (fun v19 v231 wx => v19 = .slice A7 ln cap7 ∧ v231 = .bool false ∧ Go.RowKit.Below w8.heap.size w8 wx)
        case first => as_aux_lemma =>
          have c0 : w8.cell? ⟨tg, k * 11, none⟩ = some (.int .u32 r0) := HTK.out _ HB8.out 0 (by omega)
          have c1 : w8.cell? ⟨tg, k * 11 + 1, none⟩ = some (.int .u32 r1) := HTK.out _ HB8.out 1 (by omega)
          have c2 : w8.cell? ⟨tg, k * 11 + 2, none⟩ = some (.int .u32 r2) := HTK.out _ HB8.out 2 (by omega)
          have c3 : w8.cell? ⟨tg, k * 11 + 3, none⟩ = some (.int .u32 r3) := HTK.out _ HB8.out 3 (by omega)
          have c4 : w8.cell? ⟨tg, k * 11 + 4, none⟩ = some (.int .u32 r4) := HTK.out _ HB8.out 4 (by omega)
          have c5 : w8.cell? ⟨tg, k * 11 + 5, none⟩ = some (.int .u32 r5) := HTK.out _ HB8.out 5 (by omega)
          have c6 : w8.cell? ⟨tg, k * 11 + 6, none⟩ = some (.int .i64 r6) := HTK.out _ HB8.out 6 (by omega)
          have c7 : w8.cell? ⟨tg, k * 11 + 7, none⟩ = some (.int .i64 r7) := HTK.out _ HB8.out 7 (by omega)
          have c8 : w8.cell? ⟨tg, k * 11 + 8, none⟩ = some (.int .i64 r8) := HTK.out _ HB8.out 8 (by omega)
          have c9 : w8.cell? ⟨tg, k * 11 + 9, none⟩ = some (.int .u32 r9) := HTK.out _ HB8.out 9 (by omega)
          have c10 : w8.cell? ⟨tg, k * 11 + 10, none⟩ = some (.int .u32 r10) := HTK.out _ HB8.out 10 (by omega)
          have x0 : w8.cell? ⟨xb, 0, none⟩ = some (.int .u32 y0) := HX8.out.cell 0
          have x1 : w8.cell? ⟨xb, 1, none⟩ = some (.int .u32 y1) := HX8.out.cell 1
          have x2 : w8.cell? ⟨xb, 2, none⟩ = some (.int .u32 y2) := HX8.out.cell 2
          have x3 : w8.cell? ⟨xb, 3, none⟩ = some (.int .u32 y3) := HX8.out.cell 3
          have x4 : w8.cell? ⟨xb, 4, none⟩ = some (.int .u32 y4) := HX8.out.cell 4
          have x5 : w8.cell? ⟨xb, 5, none⟩ = some (.int .u32 y5) := HX8.out.cell 5
          have x6 : w8.cell? ⟨xb, 6, none⟩ = some (.int .i64 y6) := HX8.out.cell 6
          have x7 : w8.cell? ⟨xb, 7, none⟩ = some (.int .i64 y7) := HX8.out.cell 7
          have x8 : w8.cell? ⟨xb, 8, none⟩ = some (.int .i64 y8) := HX8.out.cell 8
          have x9 : w8.cell? ⟨xb, 9, none⟩ = some (.int .u32 y9) := HX8.out.cell 9
          have x10 : w8.cell? ⟨xb, 10, none⟩ = some (.int .u32 y10) := HX8.out.cell 10
          rcases HCS.out with ⟨rfl, rfl, hy⟩ | ⟨rfl, rfl⟩
          · have hyy : y0 = r0 ∧ y1 = r1 ∧ y2 = r2 ∧ y3 = r3 ∧ y4 = r4 ∧ y5 = r5 ∧ y6 = r6 ∧ y7 = r7 ∧ y8 = r8 ∧ y9 = r9 ∧ y10 = r10 := by simpa using hy
            obtain ⟨rfl, rfl, rfl, rfl, rfl, rfl, rfl, rfl, rfl, rfl, rfl⟩ := hyy
            have e1 := fun w => run_neq_record ⟨y0, y1, y2, y3, y4, y5, y6, y7, y8, y9, y10⟩ ⟨y0, y1, y2, y3, y4, y5, y6, y7, y8, y9, y10⟩ w
            rw [sameR_iff.2 rfl] at e1
            simp only [Rc.agg, Rc.cells] at e1
            clear hy
            go_region_held3 (fun w' => Go.RowKit.Below w8.heap.size w8 w' ∧ w'.cell? ⟨tg, k * 11, none⟩ = some (.int .u32 y0) ∧ w'.cell? ⟨tg, k * 11 + 1, none⟩ = some (.int .u32 y1) ∧ w'.cell? ⟨tg, k * 11 + 2, none⟩ = some (.int .u32 y2) ∧ w'.cell? ⟨tg, k * 11 + 3, none⟩ = some (.int .u32 y3) ∧ w'.cell? ⟨tg, k * 11 + 4, none⟩ = some (.int .u32 y4) ∧ w'.cell? ⟨tg, k * 11 + 5, none⟩ = some (.int .u32 y5) ∧ w'.cell? ⟨tg, k * 11 + 6, none⟩ = some (.int .i64 y6) ∧ w'.cell? ⟨tg, k * 11 + 7, none⟩ = some (.int .i64 y7) ∧ w'.cell? ⟨tg, k * 11 + 8, none⟩ = some (.int .i64 y8) ∧ w'.cell? ⟨tg, k * 11 + 9, none⟩ = some (.int .u32 y9) ∧ w'.cell? ⟨tg, k * 11 + 10, none⟩ = some (.int .u32 y10) ∧ w'.cell? ⟨xb, 0, none⟩ = some (.int .u32 y0) ∧ w'.cell? ⟨xb, 1, none⟩ = some (.int .u32 y1) ∧ w'.cell? ⟨xb, 2, none⟩ = some (.int .u32 y2) ∧ w'.cell? ⟨xb, 3, none⟩ = some (.int .u32 y3) ∧ w'.cell? ⟨xb, 4, none⟩ = some (.int .u32 y4) ∧ w'.cell? ⟨xb, 5, none⟩ = some (.int .u32 y5) ∧ w'.cell? ⟨xb, 6, none⟩ = some (.int .i64 y6) ∧ w'.cell? ⟨xb, 7, none⟩ = some (.int .i64 y7) ∧ w'.cell? ⟨xb, 8, none⟩ = some (.int .i64 y8) ∧ w'.cell? ⟨xb, 9, none⟩ = some (.int .u32 y9) ∧ w'.cell? ⟨xb, 10, none⟩ = some (.int .u32 y10)) (first | exact ⟨(Go.RowKit.Below.refl _ _).drew, c0, c1, c2, c3, c4, c5, c6, c7, c8, c9, c10, x0, x1, x2, x3, x4, x5, x6, x7, x8, x9, x10⟩ | (obtain ⟨hX, k0_, k1_, k2_, k3_, k4_, k5_, k6_, k7_, k8_, k9_, k10_, k11_, k12_, k13_, k14_, k15_, k16_, k17_, k18_, k19_, k20_, k21_⟩ := ‹Go.RowKit.Below w8.heap.size w8 _ ∧ _›; exact ⟨hX.trans (hb9.mono hX.size), (hb9.cell (cell_lt k0_)).trans k0_, (hb9.cell (cell_lt k1_)).trans k1_, (hb9.cell (cell_lt k2_)).trans k2_, (hb9.cell (cell_lt k3_)).trans k3_, (hb9.cell (cell_lt k4_)).trans k4_, (hb9.cell (cell_lt k5_)).trans k5_, (hb9.cell (cell_lt k6_)).trans k6_, (hb9.cell (cell_lt k7_)).trans k7_, (hb9.cell (cell_lt k8_)).trans k8_, (hb9.cell (cell_lt k9_)).trans k9_, (hb9.cell (cell_lt k10_)).trans k10_, (hb9.cell (cell_lt k11_)).trans k11_, (hb9.cell (cell_lt k12_)).trans k12_, (hb9.cell (cell_lt k13_)).trans k13_, (hb9.cell (cell_lt k14_)).trans k14_, (hb9.cell (cell_lt k15_)).trans k15_, (hb9.cell (cell_lt k16_)).trans k16_, (hb9.cell (cell_lt k17_)).trans k17_, (hb9.cell (cell_lt k18_)).trans k18_, (hb9.cell (cell_lt k19_)).trans k19_, (hb9.cell (cell_lt k20_)).trans k20_, (hb9.cell (cell_lt k21_)).trans k21_⟩))
              (first
            | (go_at_call 17; obtain ⟨hX, _⟩ := ‹Go.RowKit.Below w8.heap.size w8 _ ∧ _›; (with_reducible refine (CH.out LR (.slice A7 ln cap7) _ (HV7b.out.move (fun q _ hq => hX.block q hq) hX.size) (.inl rfl)).mono ?_); rintro e w9 ⟨rfl, hb9⟩)
            | (go_at_call 17; obtain ⟨hX, _⟩ := ‹Go.RowKit.Below w8.heap.size w8 _ ∧ _›; (with_reducible refine (CH.out LO v8 _ (HV8.out.move (fun q _ hq => hX.block q hq) hX.size) (.inr (.inl rfl))).mono ?_); rintro e w9 ⟨rfl, hb9⟩)
            | (go_at_call 12; obtain ⟨hX, _⟩ := ‹Go.RowKit.Below w8.heap.size w8 _ ∧ _›; (with_reducible refine (CA2.out _ (HB8.out.trans (hX.mono HB8.out.size))).mono ?_); rintro e w9 ⟨v9, rfl, ho9, hb9⟩; have HVA := Lib.hid (recsAt_own ho9))
            | (go_at_call 17; (with_reducible refine (CH.out LA v9 _ HVA.out (.inr (.inr rfl))).mono ?_); rintro e w9 ⟨rfl, hb9⟩))
            all_goals (
              go_wp2
              go_meet
              case rel => exact ⟨rfl, rfl, ‹Go.RowKit.Below w8.heap.size w8 _ ∧ _›.1⟩)
          · refine wp_region_held_drew (S := (fun w' => Go.RowKit.Below w8.heap.size w8 w' ∧ w'.cell? ⟨tg, k * 11, none⟩ = some (.int .u32 r0) ∧ w'.cell? ⟨tg, k * 11 + 1, none⟩ = some (.int .u32 r1) ∧ w'.cell? ⟨tg, k * 11 + 2, none⟩ = some (.int .u32 r2) ∧ w'.cell? ⟨tg, k * 11 + 3, none⟩ = some (.int .u32 r3) ∧ w'.cell? ⟨tg, k * 11 + 4, none⟩ = some (.int .u32 r4) ∧ w'.cell? ⟨tg, k * 11 + 5, none⟩ = some (.int .u32 r5) ∧ w'.cell? ⟨tg, k * 11 + 6, none⟩ = some (.int .i64 r6) ∧ w'.cell? ⟨tg, k * 11 + 7, none⟩ = some (.int .i64 r7) ∧ w'.cell? ⟨tg, k * 11 + 8, none⟩ = some (.int .i64 r8) ∧ w'.cell? ⟨tg, k * 11 + 9, none⟩ = some (.int .u32 r9) ∧ w'.cell? ⟨tg, k * 11 + 10, none⟩ = some (.int .u32 r10) ∧ w'.cell? ⟨xb, 0, none⟩ = some (.int .u32 y0) ∧ w'.cell? ⟨xb, 1, none⟩ = some (.int .u32 y1) ∧ w'.cell? ⟨xb, 2, none⟩ = some (.int .u32 y2) ∧ w'.cell? ⟨xb, 3, none⟩ = some (.int .u32 y3) ∧ w'.cell? ⟨xb, 4, none⟩ = some (.int .u32 y4) ∧ w'.cell? ⟨xb, 5, none⟩ = some (.int .u32 y5) ∧ w'.cell? ⟨xb, 6, none⟩ = some (.int .i64 y6) ∧ w'.cell? ⟨xb, 7, none⟩ = some (.int .i64 y7) ∧ w'.cell? ⟨xb, 8, none⟩ = some (.int .i64 y8) ∧ w'.cell? ⟨xb, 9, none⟩ = some (.int .u32 y9) ∧ w'.cell? ⟨xb, 10, none⟩ = some (.int .u32 y10))) (by kernel_rfl) ?_ (fun hHeld => ?_)
            · exact ⟨(Go.RowKit.Below.refl _ _).drew, c0, c1, c2, c3, c4, c5, c6, c7, c8, c9, c10, x0, x1, x2, x3, x4, x5, x6, x7, x8, x9, x10⟩
            refine wpAnyH_take (i := 0) (oi := { dst := some 181, op := Op.move (Operand.tmp 18), type := 54, pos := "law.go:206", after := #[], guard := none }) (v := ?v_0) rfl (by kernel_rfl) (by kernel_rfl) (by kernel_rfl) (fun _ _ _ h => h) (Or.inl ⟨by rfl, ?h_0⟩) hHeld ?r_0
            case h_0 => ((intro w hSw; (try dsimp only at hSw); go_simp) <;> with_reducible rfl)
            (try simp only [Act.put, List.setIfInBounds_toArray, List.set_cons_zero, List.set_cons_succ])
            refine wpAnyH_take (i := 1) (oi := { dst := some 182, op := Op.binOp BinOp.eql 54 (Operand.tmp 181) (Operand.const (Value.int IntKind.i64 0)) 54, type := 4, pos := "law.go:206", after := #[{ on := 0, ground := Ground.data }], guard := none }) (v := ?v_1) rfl (by kernel_rfl) (by kernel_rfl) (by kernel_rfl) (fun _ _ _ h => h) (Or.inl ⟨by rfl, ?h_1⟩) hHeld ?r_1
            case h_1 => ((intro w hSw; (try dsimp only at hSw); go_simp) <;> with_reducible rfl)
            (try simp only [Act.put, List.setIfInBounds_toArray, List.set_cons_zero, List.set_cons_succ])
            refine wpAnyH_take (i := 2) (oi := { dst := some 183, op := Op.move (Operand.tmp 16), type := 3, pos := "law.go:206", after := #[], guard := none }) (v := ?v_2) rfl (by kernel_rfl) (by kernel_rfl) (by kernel_rfl) (fun _ _ _ h => h) (Or.inl ⟨by rfl, ?h_2⟩) hHeld ?r_2
            case h_2 => ((intro w hSw; (try dsimp only at hSw); go_simp) <;> with_reducible rfl)
            (try simp only [Act.put, List.setIfInBounds_toArray, List.set_cons_zero, List.set_cons_succ])
            refine wpAnyH_take (i := 3) (oi := { dst := some 184, op := Op.binOp BinOp.eql 3 (Operand.tmp 183) (Operand.const (Value.int IntKind.i64 1)) 3, type := 4, pos := "law.go:206", after := #[{ on := 2, ground := Ground.data }], guard := none }) (v := ?v_3) rfl (by kernel_rfl) (by kernel_rfl) (by kernel_rfl) (fun _ _ _ h => h) (Or.inl ⟨by rfl, ?h_3⟩) hHeld ?r_3
            case h_3 => ((intro w hSw; (try dsimp only at hSw); go_simp) <;> with_reducible rfl)
            (try simp only [Act.put, List.setIfInBounds_toArray, List.set_cons_zero, List.set_cons_succ])
            refine wpAnyH_take (i := 4) (oi := { dst := some 185, op := Op.binOp BinOp.neq 4 (Operand.tmp 182) (Operand.tmp 184) 4, type := 4, pos := "law.go:206", after := #[{ on := 1, ground := Ground.data }, { on := 3, ground := Ground.data }], guard := none }) (v := ?v_4) rfl (by kernel_rfl) (by kernel_rfl) (by kernel_rfl) (fun _ _ _ h => h) (Or.inl ⟨by rfl, ?h_4⟩) hHeld ?r_4
            case h_4 => ((intro w hSw; (try dsimp only at hSw); go_simp) <;> with_reducible rfl)
            (try simp only [Act.put, List.setIfInBounds_toArray, List.set_cons_zero, List.set_cons_succ])
            refine wpAnyH_take (i := 5) (oi := { dst := some 186, op := Op.move (Operand.tmp 185), type := 4, pos := "law.go:206", after := #[{ on := 4, ground := Ground.data }], guard := none }) (v := ?v_5) rfl (by kernel_rfl) (by kernel_rfl) (by kernel_rfl) (fun _ _ _ h => h) (Or.inl ⟨by rfl, ?h_5⟩) hHeld ?r_5
            case h_5 => ((intro w hSw; (try dsimp only at hSw); go_simp) <;> with_reducible rfl)
            (try simp only [Act.put, List.setIfInBounds_toArray, List.set_cons_zero, List.set_cons_succ])
            refine wpAnyH_take (i := 6) (oi := { dst := some 187, op := Op.move (Operand.tmp 16), type := 3, pos := "law.go:206", after := #[{ on := 5, ground := Ground.guard }], guard := some (5, false) }) (v := ?v_6) rfl (by kernel_rfl) (by kernel_rfl) (by kernel_rfl) (fun _ _ _ h => h) (Or.inl ⟨by rfl, ?h_6⟩) hHeld ?r_6
            case h_6 => ((intro w hSw; (try dsimp only at hSw); go_simp) <;> with_reducible rfl)
            (try simp only [Act.put, List.setIfInBounds_toArray, List.set_cons_zero, List.set_cons_succ])
            refine wpAnyH_take (i := 7) (oi := { dst := some 188, op := Op.binOp BinOp.eql 3 (Operand.tmp 187) (Operand.const (Value.int IntKind.i64 1)) 3, type := 4, pos := "law.go:206", after := #[{ on := 6, ground := Ground.data }, { on := 5, ground := Ground.guard }], guard := some (5, false) }) (v := ?v_7) rfl (by kernel_rfl) (by kernel_rfl) (by kernel_rfl) (fun _ _ _ h => h) (Or.inl ⟨by rfl, ?h_7⟩) hHeld ?r_7
            case h_7 => ((intro w hSw; (try dsimp only at hSw); go_simp) <;> with_reducible rfl)
            (try simp only [Act.put, List.setIfInBounds_toArray, List.set_cons_zero, List.set_cons_succ])
            refine wpAnyH_take (i := 8) (oi := { dst := some 189, op := Op.move (Operand.tmp 188), type := 4, pos := "law.go:206", after := #[{ on := 7, ground := Ground.data }, { on := 5, ground := Ground.chain }, { on := 5, ground := Ground.guard }], guard := some (5, false) }) (v := ?v_8) rfl (by kernel_rfl) (by kernel_rfl) (by kernel_rfl) (fun _ _ _ h => h) (Or.inl ⟨by rfl, ?h_8⟩) hHeld ?r_8
            case h_8 => ((intro w hSw; (try dsimp only at hSw); go_simp) <;> with_reducible rfl)
            (try simp only [Act.put, List.setIfInBounds_toArray, List.set_cons_zero, List.set_cons_succ])
            refine wpAnyH_take (i := 9) (oi := { dst := some 190, op := Op.load 57 (Operand.tmp 17), type := 57, pos := "law.go:206", after := #[{ on := 8, ground := Ground.guard }], guard := some (8, true) }) (v := undef) rfl (by kernel_rfl) (by kernel_rfl) (by kernel_rfl) (fun _ _ _ h => h) (Or.inr ⟨by rfl, rfl⟩) hHeld ?_
            (try simp only [Act.put, List.setIfInBounds_toArray, List.set_cons_zero, List.set_cons_succ])
            refine wpAnyH_take (i := 10) (oi := { dst := some 191, op := Op.move (Operand.tmp 5), type := 28, pos := "law.go:206", after := #[{ on := 8, ground := Ground.guard }], guard := some (8, true) }) (v := undef) rfl (by kernel_rfl) (by kernel_rfl) (by kernel_rfl) (fun _ _ _ h => h) (Or.inr ⟨by rfl, rfl⟩) hHeld ?_
            (try simp only [Act.put, List.setIfInBounds_toArray, List.set_cons_zero, List.set_cons_succ])
            refine wpAnyH_take (i := 11) (oi := { dst := some 192, op := Op.move (Operand.tmp 15), type := 3, pos := "law.go:206", after := #[{ on := 8, ground := Ground.guard }], guard := some (8, true) }) (v := undef) rfl (by kernel_rfl) (by kernel_rfl) (by kernel_rfl) (fun _ _ _ h => h) (Or.inr ⟨by rfl, rfl⟩) hHeld ?_
            (try simp only [Act.put, List.setIfInBounds_toArray, List.set_cons_zero, List.set_cons_succ])
            refine wpAnyH_take (i := 12) (oi := { dst := some 193, op := Op.indexAddr 28 (Operand.tmp 191) (Operand.tmp 192), type := 0, pos := "law.go:206", after := #[{ on := 10, ground := Ground.data }, { on := 11, ground := Ground.data }, { on := 8, ground := Ground.guard }], guard := some (8, true) }) (v := undef) rfl (by kernel_rfl) (by kernel_rfl) (by kernel_rfl) (fun _ _ _ h => h) (Or.inr ⟨by rfl, rfl⟩) hHeld ?_
            (try simp only [Act.put, List.setIfInBounds_toArray, List.set_cons_zero, List.set_cons_succ])
            refine wpAnyH_take (i := 13) (oi := { dst := some 194, op := Op.load 57 (Operand.tmp 193), type := 57, pos := "law.go:206", after := #[{ on := 12, ground := Ground.data }, { on := 8, ground := Ground.guard }], guard := some (8, true) }) (v := undef) rfl (by kernel_rfl) (by kernel_rfl) (by kernel_rfl) (fun _ _ _ h => h) (Or.inr ⟨by rfl, rfl⟩) hHeld ?_
            (try simp only [Act.put, List.setIfInBounds_toArray, List.set_cons_zero, List.set_cons_succ])
            refine wpAnyH_take (i := 14) (oi := { dst := some 195, op := Op.binOp BinOp.neq 57 (Operand.tmp 190) (Operand.tmp 194) 57, type := 4, pos := "law.go:206", after := #[{ on := 9, ground := Ground.data }, { on := 13, ground := Ground.data }, { on := 8, ground := Ground.guard }], guard := some (8, true) }) (v := undef) rfl (by kernel_rfl) (by kernel_rfl) (by kernel_rfl) (fun _ _ _ h => h) (Or.inr ⟨by rfl, rfl⟩) hHeld ?_
            (try simp only [Act.put, List.setIfInBounds_toArray, List.set_cons_zero, List.set_cons_succ])
            refine wpAnyH_take (i := 15) (oi := { dst := some 196, op := Op.pick (Operand.tmp 189) (Operand.tmp 195) (Operand.const (Value.bool false)), type := 4, pos := "law.go:206", after := #[{ on := 8, ground := Ground.data }, { on := 14, ground := Ground.data }, { on := 5, ground := Ground.guard }], guard := some (5, false) }) (v := ?v_15) rfl (by kernel_rfl) (by kernel_rfl) (by kernel_rfl) (fun _ _ _ h => h) (Or.inl ⟨by rfl, ?h_15⟩) hHeld ?r_15
            case h_15 => ((intro w hSw; (try dsimp only at hSw); go_simp) <;> with_reducible rfl)
            (try simp only [Act.put, List.setIfInBounds_toArray, List.set_cons_zero, List.set_cons_succ])
            refine wpAnyH_take (i := 16) (oi := { dst := some 197, op := Op.pick (Operand.tmp 186) (Operand.const (Value.bool true)) (Operand.tmp 196), type := 4, pos := "law.go:206", after := #[{ on := 5, ground := Ground.data }, { on := 15, ground := Ground.data }], guard := none }) (v := ?v_16) rfl (by kernel_rfl) (by kernel_rfl) (by kernel_rfl) (fun _ _ _ h => h) (Or.inl ⟨by rfl, ?h_16⟩) hHeld ?r_16
            case h_16 => ((intro w hSw; (try dsimp only at hSw); go_simp) <;> with_reducible rfl)
            (try simp only [Act.put, List.setIfInBounds_toArray, List.set_cons_zero, List.set_cons_succ])
            refine wpAnyH_take (i := 17) (oi := { dst := some 198, op := Op.move (Operand.tmp 197), type := 4, pos := "law.go:206", after := #[{ on := 16, ground := Ground.data }, { on := 8, ground := Ground.chain }], guard := none }) (v := ?v_17) rfl (by kernel_rfl) (by kernel_rfl) (by kernel_rfl) (fun _ _ _ h => h) (Or.inl ⟨by rfl, ?h_17⟩) hHeld ?r_17
            case h_17 => ((intro w hSw; (try dsimp only at hSw); go_simp) <;> with_reducible rfl)
            (try simp only [Act.put, List.setIfInBounds_toArray, List.set_cons_zero, List.set_cons_succ])
            refine wpAnyH_take (i := 18) (oi := { dst := some 199, op := Op.move (Operand.tmp 19), type := 28, pos := "law.go:206", after := #[{ on := 17, ground := Ground.guard }], guard := some (17, false) }) (v := ?v_18) rfl (by kernel_rfl) (by kernel_rfl) (by kernel_rfl) (fun _ _ _ h => h) (Or.inl ⟨by rfl, ?h_18⟩) hHeld ?r_18
            case h_18 => ((intro w hSw; (try dsimp only at hSw); go_simp) <;> with_reducible rfl)
            (try simp only [Act.put, List.setIfInBounds_toArray, List.set_cons_zero, List.set_cons_succ])
            refine wpAnyH_take (i := 19) (oi := { dst := some 200, op := Op.move (Operand.tmp 5), type := 28, pos := "law.go:206", after := #[{ on := 17, ground := Ground.guard }], guard := some (17, false) }) (v := ?v_19) rfl (by kernel_rfl) (by kernel_rfl) (by kernel_rfl) (fun _ _ _ h => h) (Or.inl ⟨by rfl, ?h_19⟩) hHeld ?r_19
            case h_19 => ((intro w hSw; (try dsimp only at hSw); go_simp) <;> with_reducible rfl)
            (try simp only [Act.put, List.setIfInBounds_toArray, List.set_cons_zero, List.set_cons_succ])
            refine wpAnyH_take (i := 20) (oi := { dst := some 201, op := Op.move (Operand.tmp 15), type := 3, pos := "law.go:206", after := #[{ on := 17, ground := Ground.guard }], guard := some (17, false) }) (v := ?v_20) rfl (by kernel_rfl) (by kernel_rfl) (by kernel_rfl) (fun _ _ _ h => h) (Or.inl ⟨by rfl, ?h_20⟩) hHeld ?r_20
            case h_20 => ((intro w hSw; (try dsimp only at hSw); go_simp) <;> with_reducible rfl)
            (try simp only [Act.put, List.setIfInBounds_toArray, List.set_cons_zero, List.set_cons_succ])
            refine wpAnyH_take (i := 21) (oi := { dst := some 202, op := Op.indexAddr 28 (Operand.tmp 200) (Operand.tmp 201), type := 0, pos := "law.go:206", after := #[{ on := 19, ground := Ground.data }, { on := 20, ground := Ground.data }, { on := 17, ground := Ground.guard }], guard := some (17, false) }) (v := ?v_21) rfl (by kernel_rfl) (by kernel_rfl) (by kernel_rfl) (fun _ _ _ h => h) (Or.inl ⟨by rfl, ?h_21⟩) hHeld ?r_21
            case h_21 => ((intro w hSw; (try dsimp only at hSw); go_simp) <;> with_reducible rfl)
            (try simp only [Act.put, List.setIfInBounds_toArray, List.set_cons_zero, List.set_cons_succ])
            refine wpAnyH_take (i := 22) (oi := { dst := some 203, op := Op.fieldAddr 57 (Operand.tmp 202) 0, type := 0, pos := "law.go:206", after := #[{ on := 21, ground := Ground.data }, { on := 17, ground := Ground.guard }], guard := some (17, false) }) (v := ?v_22) rfl (by kernel_rfl) (by kernel_rfl) (by kernel_rfl) (fun _ _ _ h => h) (Or.inl ⟨by rfl, ?h_22⟩) hHeld ?r_22
            case h_22 => ((intro w hSw; (try dsimp only at hSw); go_simp) <;> with_reducible rfl)
            (try simp only [Act.put, List.setIfInBounds_toArray, List.set_cons_zero, List.set_cons_succ])
            refine wpAnyH_take (i := 23) (oi := { dst := some 204, op := Op.load 41 (Operand.tmp 203), type := 41, pos := "law.go:206", after := #[{ on := 22, ground := Ground.data }, { on := 17, ground := Ground.guard }], guard := some (17, false) }) (v := ?v_23) rfl (by kernel_rfl) (by kernel_rfl) (by kernel_rfl) (fun _ _ _ h => h) (Or.inl ⟨by rfl, ?h_23⟩) hHeld ?r_23
            case h_23 => ((intro w hSw; (try dsimp only at hSw); go_simp) <;> with_reducible rfl)
            (try simp only [Act.put, List.setIfInBounds_toArray, List.set_cons_zero, List.set_cons_succ])
            refine wpAnyH_take (i := 25) (oi := { dst := some 206, op := Op.move (Operand.tmp 16), type := 3, pos := "law.go:206", after := #[{ on := 17, ground := Ground.guard }], guard := some (17, false) }) (v := ?v_25) rfl (by kernel_rfl) (by kernel_rfl) (by kernel_rfl) (fun _ _ _ h => h) (Or.inl ⟨by rfl, ?h_25⟩) hHeld ?r_25
            case h_25 => ((intro w hSw; (try dsimp only at hSw); go_simp) <;> with_reducible rfl)
            (try simp only [Act.put, List.setIfInBounds_toArray, List.set_cons_zero, List.set_cons_succ])
            refine wpAnyH_ready (rs := [24]) (by kernel_rfl) (by simp) ?_
            refine AllReadyH.cons (o := { dst := some 205, op := Op.call { callee := Callee.value (Operand.func 17), args := #[Operand.tmp 199, Operand.tmp 204], argTypes := #[28, 41] }, type := 3, pos := "law.go:206", after := #[{ on := 18, ground := Ground.data }, { on := 23, ground := Ground.data }, { on := 17, ground := Ground.chain }, { on := 17, ground := Ground.guard }], guard := some (17, false) }) rfl (fun K hK => ?_) AllReadyH.nil
            go_simp
            refine (CH.out LR (.slice A7 ln cap7) _ (HV7b.out.move (fun q _ hq => hHeld.1.block q hq) hHeld.1.size) (.inl rfl)).mono ?_; rintro e w9 ⟨rfl, hb9⟩
            go_wp2_with fail
            refine hK.out _ _ ?_ (fun hHeld2 => ?_)
            · exact ⟨hHeld.1.trans (hb9.mono hHeld.1.size), (hb9.cell (cell_lt hHeld.2.1)).trans hHeld.2.1, (hb9.cell (cell_lt hHeld.2.2.1)).trans hHeld.2.2.1, (hb9.cell (cell_lt hHeld.2.2.2.1)).trans hHeld.2.2.2.1, (hb9.cell (cell_lt hHeld.2.2.2.2.1)).trans hHeld.2.2.2.2.1, (hb9.cell (cell_lt hHeld.2.2.2.2.2.1)).trans hHeld.2.2.2.2.2.1, (hb9.cell (cell_lt hHeld.2.2.2.2.2.2.1)).trans hHeld.2.2.2.2.2.2.1, (hb9.cell (cell_lt hHeld.2.2.2.2.2.2.2.1)).trans hHeld.2.2.2.2.2.2.2.1, (hb9.cell (cell_lt hHeld.2.2.2.2.2.2.2.2.1)).trans hHeld.2.2.2.2.2.2.2.2.1, (hb9.cell (cell_lt hHeld.2.2.2.2.2.2.2.2.2.1)).trans hHeld.2.2.2.2.2.2.2.2.2.1, (hb9.cell (cell_lt hHeld.2.2.2.2.2.2.2.2.2.2.1)).trans hHeld.2.2.2.2.2.2.2.2.2.2.1, (hb9.cell (cell_lt hHeld.2.2.2.2.2.2.2.2.2.2.2.1)).trans hHeld.2.2.2.2.2.2.2.2.2.2.2.1, (hb9.cell (cell_lt hHeld.2.2.2.2.2.2.2.2.2.2.2.2.1)).trans hHeld.2.2.2.2.2.2.2.2.2.2.2.2.1, (hb9.cell (cell_lt hHeld.2.2.2.2.2.2.2.2.2.2.2.2.2.1)).trans hHeld.2.2.2.2.2.2.2.2.2.2.2.2.2.1, (hb9.cell (cell_lt hHeld.2.2.2.2.2.2.2.2.2.2.2.2.2.2.1)).trans hHeld.2.2.2.2.2.2.2.2.2.2.2.2.2.2.1, (hb9.cell (cell_lt hHeld.2.2.2.2.2.2.2.2.2.2.2.2.2.2.2.1)).trans hHeld.2.2.2.2.2.2.2.2.2.2.2.2.2.2.2.1, (hb9.cell (cell_lt hHeld.2.2.2.2.2.2.2.2.2.2.2.2.2.2.2.2.1)).trans hHeld.2.2.2.2.2.2.2.2.2.2.2.2.2.2.2.2.1, (hb9.cell (cell_lt hHeld.2.2.2.2.2.2.2.2.2.2.2.2.2.2.2.2.2.1)).trans hHeld.2.2.2.2.2.2.2.2.2.2.2.2.2.2.2.2.2.1, (hb9.cell (cell_lt hHeld.2.2.2.2.2.2.2.2.2.2.2.2.2.2.2.2.2.2.1)).trans hHeld.2.2.2.2.2.2.2.2.2.2.2.2.2.2.2.2.2.2.1, (hb9.cell (cell_lt hHeld.2.2.2.2.2.2.2.2.2.2.2.2.2.2.2.2.2.2.2.1)).trans hHeld.2.2.2.2.2.2.2.2.2.2.2.2.2.2.2.2.2.2.2.1, (hb9.cell (cell_lt hHeld.2.2.2.2.2.2.2.2.2.2.2.2.2.2.2.2.2.2.2.2.1)).trans hHeld.2.2.2.2.2.2.2.2.2.2.2.2.2.2.2.2.2.2.2.2.1, (hb9.cell (cell_lt hHeld.2.2.2.2.2.2.2.2.2.2.2.2.2.2.2.2.2.2.2.2.2.1)).trans hHeld.2.2.2.2.2.2.2.2.2.2.2.2.2.2.2.2.2.2.2.2.2.1, (hb9.cell (cell_lt hHeld.2.2.2.2.2.2.2.2.2.2.2.2.2.2.2.2.2.2.2.2.2.2)).trans hHeld.2.2.2.2.2.2.2.2.2.2.2.2.2.2.2.2.2.2.2.2.2.2⟩
            clear hK K hHeld
            have hHeld := hHeld2
            clear hHeld2
            (try simp only [Act.put, List.setIfInBounds_toArray, List.set_cons_zero, List.set_cons_succ])
            refine wpAnyH_take (i := 26) (oi := { dst := some 207, op := Op.binOp BinOp.neq 3 (Operand.tmp 205) (Operand.tmp 206) 3, type := 4, pos := "law.go:206", after := #[{ on := 24, ground := Ground.data }, { on := 25, ground := Ground.data }, { on := 17, ground := Ground.guard }], guard := some (17, false) }) (v := ?v_26) rfl (by kernel_rfl) (by kernel_rfl) (by kernel_rfl) (fun _ _ _ h => h) (Or.inl ⟨by rfl, ?h_26⟩) hHeld ?r_26
            case h_26 => ((intro w hSw; (try dsimp only at hSw); go_simp) <;> with_reducible rfl)
            (try simp only [Act.put, List.setIfInBounds_toArray, List.set_cons_zero, List.set_cons_succ])
            refine wpAnyH_take (i := 27) (oi := { dst := some 208, op := Op.pick (Operand.tmp 198) (Operand.const (Value.bool true)) (Operand.tmp 207), type := 4, pos := "law.go:206", after := #[{ on := 17, ground := Ground.data }, { on := 26, ground := Ground.data }], guard := none }) (v := ?v_27) rfl (by kernel_rfl) (by kernel_rfl) (by kernel_rfl) (fun _ _ _ h => h) (Or.inl ⟨by rfl, ?h_27⟩) hHeld ?r_27
            case h_27 => ((intro w hSw; (try dsimp only at hSw); go_simp) <;> with_reducible rfl)
            (try simp only [Act.put, List.setIfInBounds_toArray, List.set_cons_zero, List.set_cons_succ])
            refine wpAnyH_take (i := 28) (oi := { dst := some 209, op := Op.move (Operand.tmp 208), type := 4, pos := "law.go:206", after := #[{ on := 27, ground := Ground.data }, { on := 24, ground := Ground.chain }], guard := none }) (v := ?v_28) rfl (by kernel_rfl) (by kernel_rfl) (by kernel_rfl) (fun _ _ _ h => h) (Or.inl ⟨by rfl, ?h_28⟩) hHeld ?r_28
            case h_28 => ((intro w hSw; (try dsimp only at hSw); go_simp) <;> with_reducible rfl)
            (try simp only [Act.put, List.setIfInBounds_toArray, List.set_cons_zero, List.set_cons_succ])
            refine wpAnyH_take (i := 29) (oi := { dst := some 210, op := Op.move (Operand.tmp 20), type := 28, pos := "law.go:206", after := #[{ on := 28, ground := Ground.guard }], guard := some (28, false) }) (v := ?v_29) rfl (by kernel_rfl) (by kernel_rfl) (by kernel_rfl) (fun _ _ _ h => h) (Or.inl ⟨by rfl, ?h_29⟩) hHeld ?r_29
            case h_29 => ((intro w hSw; (try dsimp only at hSw); go_simp) <;> with_reducible rfl)
            (try simp only [Act.put, List.setIfInBounds_toArray, List.set_cons_zero, List.set_cons_succ])
            refine wpAnyH_take (i := 30) (oi := { dst := some 211, op := Op.move (Operand.tmp 5), type := 28, pos := "law.go:206", after := #[{ on := 28, ground := Ground.guard }], guard := some (28, false) }) (v := ?v_30) rfl (by kernel_rfl) (by kernel_rfl) (by kernel_rfl) (fun _ _ _ h => h) (Or.inl ⟨by rfl, ?h_30⟩) hHeld ?r_30
            case h_30 => ((intro w hSw; (try dsimp only at hSw); go_simp) <;> with_reducible rfl)
            (try simp only [Act.put, List.setIfInBounds_toArray, List.set_cons_zero, List.set_cons_succ])
            refine wpAnyH_take (i := 31) (oi := { dst := some 212, op := Op.move (Operand.tmp 15), type := 3, pos := "law.go:206", after := #[{ on := 28, ground := Ground.guard }], guard := some (28, false) }) (v := ?v_31) rfl (by kernel_rfl) (by kernel_rfl) (by kernel_rfl) (fun _ _ _ h => h) (Or.inl ⟨by rfl, ?h_31⟩) hHeld ?r_31
            case h_31 => ((intro w hSw; (try dsimp only at hSw); go_simp) <;> with_reducible rfl)
            (try simp only [Act.put, List.setIfInBounds_toArray, List.set_cons_zero, List.set_cons_succ])
            refine wpAnyH_take (i := 32) (oi := { dst := some 213, op := Op.indexAddr 28 (Operand.tmp 211) (Operand.tmp 212), type := 0, pos := "law.go:206", after := #[{ on := 30, ground := Ground.data }, { on := 31, ground := Ground.data }, { on := 28, ground := Ground.guard }], guard := some (28, false) }) (v := ?v_32) rfl (by kernel_rfl) (by kernel_rfl) (by kernel_rfl) (fun _ _ _ h => h) (Or.inl ⟨by rfl, ?h_32⟩) hHeld ?r_32
            case h_32 => ((intro w hSw; (try dsimp only at hSw); go_simp) <;> with_reducible rfl)
            (try simp only [Act.put, List.setIfInBounds_toArray, List.set_cons_zero, List.set_cons_succ])
            refine wpAnyH_take (i := 33) (oi := { dst := some 214, op := Op.fieldAddr 57 (Operand.tmp 213) 0, type := 0, pos := "law.go:206", after := #[{ on := 32, ground := Ground.data }, { on := 28, ground := Ground.guard }], guard := some (28, false) }) (v := ?v_33) rfl (by kernel_rfl) (by kernel_rfl) (by kernel_rfl) (fun _ _ _ h => h) (Or.inl ⟨by rfl, ?h_33⟩) hHeld ?r_33
            case h_33 => ((intro w hSw; (try dsimp only at hSw); go_simp) <;> with_reducible rfl)
            (try simp only [Act.put, List.setIfInBounds_toArray, List.set_cons_zero, List.set_cons_succ])
            refine wpAnyH_take (i := 34) (oi := { dst := some 215, op := Op.load 41 (Operand.tmp 214), type := 41, pos := "law.go:206", after := #[{ on := 33, ground := Ground.data }, { on := 28, ground := Ground.guard }], guard := some (28, false) }) (v := ?v_34) rfl (by kernel_rfl) (by kernel_rfl) (by kernel_rfl) (fun _ _ _ h => h) (Or.inl ⟨by rfl, ?h_34⟩) hHeld ?r_34
            case h_34 => ((intro w hSw; (try dsimp only at hSw); go_simp) <;> with_reducible rfl)
            (try simp only [Act.put, List.setIfInBounds_toArray, List.set_cons_zero, List.set_cons_succ])
            refine wpAnyH_take (i := 36) (oi := { dst := some 217, op := Op.move (Operand.tmp 16), type := 3, pos := "law.go:206", after := #[{ on := 28, ground := Ground.guard }], guard := some (28, false) }) (v := ?v_36) rfl (by kernel_rfl) (by kernel_rfl) (by kernel_rfl) (fun _ _ _ h => h) (Or.inl ⟨by rfl, ?h_36⟩) hHeld ?r_36
            case h_36 => ((intro w hSw; (try dsimp only at hSw); go_simp) <;> with_reducible rfl)
            (try simp only [Act.put, List.setIfInBounds_toArray, List.set_cons_zero, List.set_cons_succ])
            refine wpAnyH_ready (rs := [35]) (by kernel_rfl) (by simp) ?_
            refine AllReadyH.cons (o := { dst := some 216, op := Op.call { callee := Callee.value (Operand.func 17), args := #[Operand.tmp 210, Operand.tmp 215], argTypes := #[28, 41] }, type := 3, pos := "law.go:206", after := #[{ on := 29, ground := Ground.data }, { on := 34, ground := Ground.data }, { on := 28, ground := Ground.chain }, { on := 28, ground := Ground.guard }], guard := some (28, false) }) rfl (fun K hK => ?_) AllReadyH.nil
            go_simp
            refine (CH.out LO v8 _ (HV8.out.move (fun q _ hq => hHeld.1.block q hq) hHeld.1.size) (.inr (.inl rfl))).mono ?_; rintro e w9 ⟨rfl, hb9⟩
            go_wp2_with fail
            refine hK.out _ _ ?_ (fun hHeld2 => ?_)
            · exact ⟨hHeld.1.trans (hb9.mono hHeld.1.size), (hb9.cell (cell_lt hHeld.2.1)).trans hHeld.2.1, (hb9.cell (cell_lt hHeld.2.2.1)).trans hHeld.2.2.1, (hb9.cell (cell_lt hHeld.2.2.2.1)).trans hHeld.2.2.2.1, (hb9.cell (cell_lt hHeld.2.2.2.2.1)).trans hHeld.2.2.2.2.1, (hb9.cell (cell_lt hHeld.2.2.2.2.2.1)).trans hHeld.2.2.2.2.2.1, (hb9.cell (cell_lt hHeld.2.2.2.2.2.2.1)).trans hHeld.2.2.2.2.2.2.1, (hb9.cell (cell_lt hHeld.2.2.2.2.2.2.2.1)).trans hHeld.2.2.2.2.2.2.2.1, (hb9.cell (cell_lt hHeld.2.2.2.2.2.2.2.2.1)).trans hHeld.2.2.2.2.2.2.2.2.1, (hb9.cell (cell_lt hHeld.2.2.2.2.2.2.2.2.2.1)).trans hHeld.2.2.2.2.2.2.2.2.2.1, (hb9.cell (cell_lt hHeld.2.2.2.2.2.2.2.2.2.2.1)).trans hHeld.2.2.2.2.2.2.2.2.2.2.1, (hb9.cell (cell_lt hHeld.2.2.2.2.2.2.2.2.2.2.2.1)).trans hHeld.2.2.2.2.2.2.2.2.2.2.2.1, (hb9.cell (cell_lt hHeld.2.2.2.2.2.2.2.2.2.2.2.2.1)).trans hHeld.2.2.2.2.2.2.2.2.2.2.2.2.1, (hb9.cell (cell_lt hHeld.2.2.2.2.2.2.2.2.2.2.2.2.2.1)).trans hHeld.2.2.2.2.2.2.2.2.2.2.2.2.2.1, (hb9.cell (cell_lt hHeld.2.2.2.2.2.2.2.2.2.2.2.2.2.2.1)).trans hHeld.2.2.2.2.2.2.2.2.2.2.2.2.2.2.1, (hb9.cell (cell_lt hHeld.2.2.2.2.2.2.2.2.2.2.2.2.2.2.2.1)).trans hHeld.2.2.2.2.2.2.2.2.2.2.2.2.2.2.2.1, (hb9.cell (cell_lt hHeld.2.2.2.2.2.2.2.2.2.2.2.2.2.2.2.2.1)).trans hHeld.2.2.2.2.2.2.2.2.2.2.2.2.2.2.2.2.1, (hb9.cell (cell_lt hHeld.2.2.2.2.2.2.2.2.2.2.2.2.2.2.2.2.2.1)).trans hHeld.2.2.2.2.2.2.2.2.2.2.2.2.2.2.2.2.2.1, (hb9.cell (cell_lt hHeld.2.2.2.2.2.2.2.2.2.2.2.2.2.2.2.2.2.2.1)).trans hHeld.2.2.2.2.2.2.2.2.2.2.2.2.2.2.2.2.2.2.1, (hb9.cell (cell_lt hHeld.2.2.2.2.2.2.2.2.2.2.2.2.2.2.2.2.2.2.2.1)).trans hHeld.2.2.2.2.2.2.2.2.2.2.2.2.2.2.2.2.2.2.2.1, (hb9.cell (cell_lt hHeld.2.2.2.2.2.2.2.2.2.2.2.2.2.2.2.2.2.2.2.2.1)).trans hHeld.2.2.2.2.2.2.2.2.2.2.2.2.2.2.2.2.2.2.2.2.1, (hb9.cell (cell_lt hHeld.2.2.2.2.2.2.2.2.2.2.2.2.2.2.2.2.2.2.2.2.2.1)).trans hHeld.2.2.2.2.2.2.2.2.2.2.2.2.2.2.2.2.2.2.2.2.2.1, (hb9.cell (cell_lt hHeld.2.2.2.2.2.2.2.2.2.2.2.2.2.2.2.2.2.2.2.2.2.2)).trans hHeld.2.2.2.2.2.2.2.2.2.2.2.2.2.2.2.2.2.2.2.2.2.2⟩
            clear hK K hHeld
            have hHeld := hHeld2
            clear hHeld2
            (try simp only [Act.put, List.setIfInBounds_toArray, List.set_cons_zero, List.set_cons_succ])
            refine wpAnyH_take (i := 37) (oi := { dst := some 218, op := Op.binOp BinOp.neq 3 (Operand.tmp 216) (Operand.tmp 217) 3, type := 4, pos := "law.go:206", after := #[{ on := 35, ground := Ground.data }, { on := 36, ground := Ground.data }, { on := 28, ground := Ground.guard }], guard := some (28, false) }) (v := ?v_37) rfl (by kernel_rfl) (by kernel_rfl) (by kernel_rfl) (fun _ _ _ h => h) (Or.inl ⟨by rfl, ?h_37⟩) hHeld ?r_37
            case h_37 => ((intro w hSw; (try dsimp only at hSw); go_simp) <;> with_reducible rfl)
            (try simp only [Act.put, List.setIfInBounds_toArray, List.set_cons_zero, List.set_cons_succ])
            refine wpAnyH_take (i := 38) (oi := { dst := some 219, op := Op.pick (Operand.tmp 209) (Operand.const (Value.bool true)) (Operand.tmp 218), type := 4, pos := "law.go:206", after := #[{ on := 28, ground := Ground.data }, { on := 37, ground := Ground.data }], guard := none }) (v := ?v_38) rfl (by kernel_rfl) (by kernel_rfl) (by kernel_rfl) (fun _ _ _ h => h) (Or.inl ⟨by rfl, ?h_38⟩) hHeld ?r_38
            case h_38 => ((intro w hSw; (try dsimp only at hSw); go_simp) <;> with_reducible rfl)
            (try simp only [Act.put, List.setIfInBounds_toArray, List.set_cons_zero, List.set_cons_succ])
            refine wpAnyH_take (i := 39) (oi := { dst := some 220, op := Op.move (Operand.tmp 219), type := 4, pos := "law.go:206", after := #[{ on := 38, ground := Ground.data }, { on := 35, ground := Ground.chain }], guard := none }) (v := ?v_39) rfl (by kernel_rfl) (by kernel_rfl) (by kernel_rfl) (fun _ _ _ h => h) (Or.inl ⟨by rfl, ?h_39⟩) hHeld ?r_39
            case h_39 => ((intro w hSw; (try dsimp only at hSw); go_simp) <;> with_reducible rfl)
            (try simp only [Act.put, List.setIfInBounds_toArray, List.set_cons_zero, List.set_cons_succ])
            refine wpAnyH_take (i := 40) (oi := { dst := some 221, op := Op.move (Operand.tmp 4), type := 25, pos := "law.go:206", after := #[{ on := 39, ground := Ground.guard }], guard := some (39, false) }) (v := ?v_40) rfl (by kernel_rfl) (by kernel_rfl) (by kernel_rfl) (fun _ _ _ h => h) (Or.inl ⟨by rfl, ?h_40⟩) hHeld ?r_40
            case h_40 => ((intro w hSw; (try dsimp only at hSw); go_simp) <;> with_reducible rfl)
            (try simp only [Act.put, List.setIfInBounds_toArray, List.set_cons_zero, List.set_cons_succ])
            refine wpAnyH_take (i := 42) (oi := { dst := some 223, op := Op.move (Operand.tmp 5), type := 28, pos := "law.go:206", after := #[{ on := 39, ground := Ground.guard }], guard := some (39, false) }) (v := ?v_42) rfl (by kernel_rfl) (by kernel_rfl) (by kernel_rfl) (fun _ _ _ h => h) (Or.inl ⟨by rfl, ?h_42⟩) hHeld ?r_42
            case h_42 => ((intro w hSw; (try dsimp only at hSw); go_simp) <;> with_reducible rfl)
            (try simp only [Act.put, List.setIfInBounds_toArray, List.set_cons_zero, List.set_cons_succ])
            refine wpAnyH_take (i := 43) (oi := { dst := some 224, op := Op.move (Operand.tmp 15), type := 3, pos := "law.go:206", after := #[{ on := 39, ground := Ground.guard }], guard := some (39, false) }) (v := ?v_43) rfl (by kernel_rfl) (by kernel_rfl) (by kernel_rfl) (fun _ _ _ h => h) (Or.inl ⟨by rfl, ?h_43⟩) hHeld ?r_43
            case h_43 => ((intro w hSw; (try dsimp only at hSw); go_simp) <;> with_reducible rfl)
            (try simp only [Act.put, List.setIfInBounds_toArray, List.set_cons_zero, List.set_cons_succ])
            refine wpAnyH_take (i := 44) (oi := { dst := some 225, op := Op.indexAddr 28 (Operand.tmp 223) (Operand.tmp 224), type := 0, pos := "law.go:206", after := #[{ on := 42, ground := Ground.data }, { on := 43, ground := Ground.data }, { on := 39, ground := Ground.guard }], guard := some (39, false) }) (v := ?v_44) rfl (by kernel_rfl) (by kernel_rfl) (by kernel_rfl) (fun _ _ _ h => h) (Or.inl ⟨by rfl, ?h_44⟩) hHeld ?r_44
            case h_44 => ((intro w hSw; (try dsimp only at hSw); go_simp) <;> with_reducible rfl)
            (try simp only [Act.put, List.setIfInBounds_toArray, List.set_cons_zero, List.set_cons_succ])
            refine wpAnyH_take (i := 45) (oi := { dst := some 226, op := Op.fieldAddr 57 (Operand.tmp 225) 0, type := 0, pos := "law.go:206", after := #[{ on := 44, ground := Ground.data }, { on := 39, ground := Ground.guard }], guard := some (39, false) }) (v := ?v_45) rfl (by kernel_rfl) (by kernel_rfl) (by kernel_rfl) (fun _ _ _ h => h) (Or.inl ⟨by rfl, ?h_45⟩) hHeld ?r_45
            case h_45 => ((intro w hSw; (try dsimp only at hSw); go_simp) <;> with_reducible rfl)
            (try simp only [Act.put, List.setIfInBounds_toArray, List.set_cons_zero, List.set_cons_succ])
            refine wpAnyH_take (i := 46) (oi := { dst := some 227, op := Op.load 41 (Operand.tmp 226), type := 41, pos := "law.go:206", after := #[{ on := 45, ground := Ground.data }, { on := 39, ground := Ground.guard }], guard := some (39, false) }) (v := ?v_46) rfl (by kernel_rfl) (by kernel_rfl) (by kernel_rfl) (fun _ _ _ h => h) (Or.inl ⟨by rfl, ?h_46⟩) hHeld ?r_46
            case h_46 => ((intro w hSw; (try dsimp only at hSw); go_simp) <;> with_reducible rfl)
            (try simp only [Act.put, List.setIfInBounds_toArray, List.set_cons_zero, List.set_cons_succ])
            refine wpAnyH_take (i := 48) (oi := { dst := some 229, op := Op.move (Operand.tmp 16), type := 3, pos := "law.go:206", after := #[{ on := 39, ground := Ground.guard }], guard := some (39, false) }) (v := ?v_48) rfl (by kernel_rfl) (by kernel_rfl) (by kernel_rfl) (fun _ _ _ h => h) (Or.inl ⟨by rfl, ?h_48⟩) hHeld ?r_48
            case h_48 => ((intro w hSw; (try dsimp only at hSw); go_simp) <;> with_reducible rfl)
            (try simp only [Act.put, List.setIfInBounds_toArray, List.set_cons_zero, List.set_cons_succ])
            refine wpAnyH_ready (rs := [41]) (by kernel_rfl) (by simp) ?_
            refine AllReadyH.cons (o := { dst := some 222, op := Op.call { callee := Callee.value (Operand.func 12), args := #[Operand.tmp 221], argTypes := #[25] }, type := 28, pos := "law.go:206", after := #[{ on := 40, ground := Ground.data }, { on := 39, ground := Ground.chain }, { on := 39, ground := Ground.guard }], guard := some (39, false) }) rfl (fun K hK => ?_) AllReadyH.nil
            go_simp
            refine (CA2.out _ (HB8.out.trans (hHeld.1.mono HB8.out.size))).mono ?_; rintro e w9 ⟨v9, rfl, ho9, hb9⟩; have HVA := Lib.hid (recsAt_own ho9); clear ho9
            go_wp2_with fail
            refine hK.out _ _ ?_ (fun hHeld2 => ?_)
            · exact ⟨hHeld.1.trans (hb9.mono hHeld.1.size), (hb9.cell (cell_lt hHeld.2.1)).trans hHeld.2.1, (hb9.cell (cell_lt hHeld.2.2.1)).trans hHeld.2.2.1, (hb9.cell (cell_lt hHeld.2.2.2.1)).trans hHeld.2.2.2.1, (hb9.cell (cell_lt hHeld.2.2.2.2.1)).trans hHeld.2.2.2.2.1, (hb9.cell (cell_lt hHeld.2.2.2.2.2.1)).trans hHeld.2.2.2.2.2.1, (hb9.cell (cell_lt hHeld.2.2.2.2.2.2.1)).trans hHeld.2.2.2.2.2.2.1, (hb9.cell (cell_lt hHeld.2.2.2.2.2.2.2.1)).trans hHeld.2.2.2.2.2.2.2.1, (hb9.cell (cell_lt hHeld.2.2.2.2.2.2.2.2.1)).trans hHeld.2.2.2.2.2.2.2.2.1, (hb9.cell (cell_lt hHeld.2.2.2.2.2.2.2.2.2.1)).trans hHeld.2.2.2.2.2.2.2.2.2.1, (hb9.cell (cell_lt hHeld.2.2.2.2.2.2.2.2.2.2.1)).trans hHeld.2.2.2.2.2.2.2.2.2.2.1, (hb9.cell (cell_lt hHeld.2.2.2.2.2.2.2.2.2.2.2.1)).trans hHeld.2.2.2.2.2.2.2.2.2.2.2.1, (hb9.cell (cell_lt hHeld.2.2.2.2.2.2.2.2.2.2.2.2.1)).trans hHeld.2.2.2.2.2.2.2.2.2.2.2.2.1, (hb9.cell (cell_lt hHeld.2.2.2.2.2.2.2.2.2.2.2.2.2.1)).trans hHeld.2.2.2.2.2.2.2.2.2.2.2.2.2.1, (hb9.cell (cell_lt hHeld.2.2.2.2.2.2.2.2.2.2.2.2.2.2.1)).trans hHeld.2.2.2.2.2.2.2.2.2.2.2.2.2.2.1, (hb9.cell (cell_lt hHeld.2.2.2.2.2.2.2.2.2.2.2.2.2.2.2.1)).trans hHeld.2.2.2.2.2.2.2.2.2.2.2.2.2.2.2.1, (hb9.cell (cell_lt hHeld.2.2.2.2.2.2.2.2.2.2.2.2.2.2.2.2.1)).trans hHeld.2.2.2.2.2.2.2.2.2.2.2.2.2.2.2.2.1, (hb9.cell (cell_lt hHeld.2.2.2.2.2.2.2.2.2.2.2.2.2.2.2.2.2.1)).trans hHeld.2.2.2.2.2.2.2.2.2.2.2.2.2.2.2.2.2.1, (hb9.cell (cell_lt hHeld.2.2.2.2.2.2.2.2.2.2.2.2.2.2.2.2.2.2.1)).trans hHeld.2.2.2.2.2.2.2.2.2.2.2.2.2.2.2.2.2.2.1, (hb9.cell (cell_lt hHeld.2.2.2.2.2.2.2.2.2.2.2.2.2.2.2.2.2.2.2.1)).trans hHeld.2.2.2.2.2.2.2.2.2.2.2.2.2.2.2.2.2.2.2.1, (hb9.cell (cell_lt hHeld.2.2.2.2.2.2.2.2.2.2.2.2.2.2.2.2.2.2.2.2.1)).trans hHeld.2.2.2.2.2.2.2.2.2.2.2.2.2.2.2.2.2.2.2.2.1, (hb9.cell (cell_lt hHeld.2.2.2.2.2.2.2.2.2.2.2.2.2.2.2.2.2.2.2.2.2.1)).trans hHeld.2.2.2.2.2.2.2.2.2.2.2.2.2.2.2.2.2.2.2.2.2.1, (hb9.cell (cell_lt hHeld.2.2.2.2.2.2.2.2.2.2.2.2.2.2.2.2.2.2.2.2.2.2)).trans hHeld.2.2.2.2.2.2.2.2.2.2.2.2.2.2.2.2.2.2.2.2.2.2⟩
            clear hK K hHeld
            have hHeld := hHeld2
            clear hHeld2
            (try simp only [Act.put, List.setIfInBounds_toArray, List.set_cons_zero, List.set_cons_succ])
            refine wpAnyH_ready (rs := [47]) (by kernel_rfl) (by simp) ?_
            refine AllReadyH.cons (o := { dst := some 228, op := Op.call { callee := Callee.value (Operand.func 17), args := #[Operand.tmp 222, Operand.tmp 227], argTypes := #[28, 41] }, type := 3, pos := "law.go:206", after := #[{ on := 41, ground := Ground.data }, { on := 46, ground := Ground.data }, { on := 41, ground := Ground.chain }, { on := 39, ground := Ground.guard }], guard := some (39, false) }) rfl (fun K hK => ?_) AllReadyH.nil
            go_simp
            refine (CH.out LA v9 _ HVA.out (.inr (.inr rfl))).mono ?_; rintro e w9 ⟨rfl, hb9⟩
            go_wp2_with fail
            refine hK.out _ _ ?_ (fun hHeld2 => ?_)
            · exact ⟨hHeld.1.trans (hb9.mono hHeld.1.size), (hb9.cell (cell_lt hHeld.2.1)).trans hHeld.2.1, (hb9.cell (cell_lt hHeld.2.2.1)).trans hHeld.2.2.1, (hb9.cell (cell_lt hHeld.2.2.2.1)).trans hHeld.2.2.2.1, (hb9.cell (cell_lt hHeld.2.2.2.2.1)).trans hHeld.2.2.2.2.1, (hb9.cell (cell_lt hHeld.2.2.2.2.2.1)).trans hHeld.2.2.2.2.2.1, (hb9.cell (cell_lt hHeld.2.2.2.2.2.2.1)).trans hHeld.2.2.2.2.2.2.1, (hb9.cell (cell_lt hHeld.2.2.2.2.2.2.2.1)).trans hHeld.2.2.2.2.2.2.2.1, (hb9.cell (cell_lt hHeld.2.2.2.2.2.2.2.2.1)).trans hHeld.2.2.2.2.2.2.2.2.1, (hb9.cell (cell_lt hHeld.2.2.2.2.2.2.2.2.2.1)).trans hHeld.2.2.2.2.2.2.2.2.2.1, (hb9.cell (cell_lt hHeld.2.2.2.2.2.2.2.2.2.2.1)).trans hHeld.2.2.2.2.2.2.2.2.2.2.1, (hb9.cell (cell_lt hHeld.2.2.2.2.2.2.2.2.2.2.2.1)).trans hHeld.2.2.2.2.2.2.2.2.2.2.2.1, (hb9.cell (cell_lt hHeld.2.2.2.2.2.2.2.2.2.2.2.2.1)).trans hHeld.2.2.2.2.2.2.2.2.2.2.2.2.1, (hb9.cell (cell_lt hHeld.2.2.2.2.2.2.2.2.2.2.2.2.2.1)).trans hHeld.2.2.2.2.2.2.2.2.2.2.2.2.2.1, (hb9.cell (cell_lt hHeld.2.2.2.2.2.2.2.2.2.2.2.2.2.2.1)).trans hHeld.2.2.2.2.2.2.2.2.2.2.2.2.2.2.1, (hb9.cell (cell_lt hHeld.2.2.2.2.2.2.2.2.2.2.2.2.2.2.2.1)).trans hHeld.2.2.2.2.2.2.2.2.2.2.2.2.2.2.2.1, (hb9.cell (cell_lt hHeld.2.2.2.2.2.2.2.2.2.2.2.2.2.2.2.2.1)).trans hHeld.2.2.2.2.2.2.2.2.2.2.2.2.2.2.2.2.1, (hb9.cell (cell_lt hHeld.2.2.2.2.2.2.2.2.2.2.2.2.2.2.2.2.2.1)).trans hHeld.2.2.2.2.2.2.2.2.2.2.2.2.2.2.2.2.2.1, (hb9.cell (cell_lt hHeld.2.2.2.2.2.2.2.2.2.2.2.2.2.2.2.2.2.2.1)).trans hHeld.2.2.2.2.2.2.2.2.2.2.2.2.2.2.2.2.2.2.1, (hb9.cell (cell_lt hHeld.2.2.2.2.2.2.2.2.2.2.2.2.2.2.2.2.2.2.2.1)).trans hHeld.2.2.2.2.2.2.2.2.2.2.2.2.2.2.2.2.2.2.2.1, (hb9.cell (cell_lt hHeld.2.2.2.2.2.2.2.2.2.2.2.2.2.2.2.2.2.2.2.2.1)).trans hHeld.2.2.2.2.2.2.2.2.2.2.2.2.2.2.2.2.2.2.2.2.1, (hb9.cell (cell_lt hHeld.2.2.2.2.2.2.2.2.2.2.2.2.2.2.2.2.2.2.2.2.2.1)).trans hHeld.2.2.2.2.2.2.2.2.2.2.2.2.2.2.2.2.2.2.2.2.2.1, (hb9.cell (cell_lt hHeld.2.2.2.2.2.2.2.2.2.2.2.2.2.2.2.2.2.2.2.2.2.2)).trans hHeld.2.2.2.2.2.2.2.2.2.2.2.2.2.2.2.2.2.2.2.2.2.2⟩
            clear hK K hHeld
            have hHeld := hHeld2
            clear hHeld2
            (try simp only [Act.put, List.setIfInBounds_toArray, List.set_cons_zero, List.set_cons_succ])
            refine wpAnyH_take (i := 49) (oi := { dst := some 230, op := Op.binOp BinOp.neq 3 (Operand.tmp 228) (Operand.tmp 229) 3, type := 4, pos := "law.go:206", after := #[{ on := 47, ground := Ground.data }, { on := 48, ground := Ground.data }, { on := 39, ground := Ground.guard }], guard := some (39, false) }) (v := ?v_49) rfl (by kernel_rfl) (by kernel_rfl) (by kernel_rfl) (fun _ _ _ h => h) (Or.inl ⟨by rfl, ?h_49⟩) hHeld ?r_49
            case h_49 => ((intro w hSw; (try dsimp only at hSw); go_simp) <;> with_reducible rfl)
            (try simp only [Act.put, List.setIfInBounds_toArray, List.set_cons_zero, List.set_cons_succ])
            refine wpAnyH_take (i := 50) (oi := { dst := some 231, op := Op.pick (Operand.tmp 220) (Operand.const (Value.bool true)) (Operand.tmp 230), type := 4, pos := "law.go:206", after := #[{ on := 39, ground := Ground.data }, { on := 49, ground := Ground.data }], guard := none }) (v := ?v_50) rfl (by kernel_rfl) (by kernel_rfl) (by kernel_rfl) (fun _ _ _ h => h) (Or.inl ⟨by rfl, ?h_50⟩) hHeld ?r_50
            case h_50 => ((intro w hSw; (try dsimp only at hSw); go_simp) <;> with_reducible rfl)
            (try simp only [Act.put, List.setIfInBounds_toArray, List.set_cons_zero, List.set_cons_succ])
            refine wpAnyH_done (by kernel_rfl) ?_ _
            go_wp2
            go_meet
            case rel => exact ⟨rfl, rfl, hHeld.1⟩
        case rest => as_aux_lemma =>
        obtain ⟨hv19, hv231, hb9⟩ := hcut
        subst hv19
        subst hv231
        have HB9 : Hid (Go.RowKit.Below w3.heap.size w3 wc) := Lib.hid (HB8.out.trans (hb9.mono HB8.out.size))
        have HC9 : Hid (∀ i q, LR[i]? = some q → ∃ g, A7 = some ⟨g, 0, none⟩ ∧ g < wc.heap.size ∧ ∀ k, k < 11 → wc.cell? ⟨g, i * 11 + k, none⟩ = q.cells[k]?) := Lib.hid (fun i q hq => by
          obtain ⟨g, e1, e2, e3⟩ := HC7b.out i q hq
          exact ⟨g, e1, Nat.lt_of_lt_of_le e2 hb9.size, fun k hk => (hb9.cell (p := ⟨g, i * 11 + k, none⟩) e2).trans (e3 k hk)⟩)
        clear hb9 HB8 HV7b HV8 HC7b HX8 HS8
        have c4 : wc.cell? ⟨tg, k * 11 + 4, none⟩ = some (.int .u32 r4) := HTK.out _ HB9.out 4 (by omega)
        have c5 : wc.cell? ⟨tg, k * 11 + 4 + 1, none⟩ = some (.int .u32 r5) := HTK.out _ HB9.out 5 (by omega)
        have c6 : wc.cell? ⟨tg, k * 11 + 4 + 2, none⟩ = some (.int .i64 r6) := HTK.out _ HB9.out 6 (by omega)
        obtain ⟨y, is, hfst, hisc⟩ : ∃ (y : Rc) (is : Bool), firstV (inRow ⟨r4, r5, r6⟩ B.N).head? = .tuple #[y.agg, .bool is] ∧ (is = true ∧ LR[0]? = some y ∨ is = false ∧ LR = []) := by
          have h1 := HHD.out
          cases h2 : (inRow ⟨r4, r5, r6⟩ B.N).head? with
          | none => rw [h2] at h1; exact ⟨zeroRc, false, rfl, .inr ⟨rfl, List.head?_eq_none_iff.1 h1.symm⟩⟩
          | some x => rw [h2] at h1; exact ⟨x.rc, true, rfl, .inl ⟨rfl, by rw [← List.head?_eq_getElem?]; exact h1.symm⟩⟩
        obtain ⟨z0, z1, z2, z3, z4, z5, z6, z7, z8, z9, z10⟩ := y
        simp only [Rc.agg, Rc.cells] at hfst
        have HIS := Lib.hid hisc
        have CF2 := Lib.hid (CF.out wc HB9.out)
        rw [hfst] at CF2
        clear hisc hfst CF
        go_wp2_with fail
        refine CF2.out.mono ?_
        rintro e w10 ⟨rfl, hb10⟩
        clear CF2 c4 c5 c6
        have hA11 : Go.RowKit.Below w10.heap.size w10 (w10.alloc (.cells #[.int .u32 z0, .int .u32 z1, .int .u32 z2, .int .u32 z3, .int .u32 z4, .int .u32 z5, .int .i64 z6, .int .i64 z7, .int .i64 z8, .int .u32 z9, .int .u32 z10] 57)) := (Go.RowKit.Below.refl _ _).alloc (Nat.le_refl _) _
        have HB11 : Hid (Go.RowKit.Below wc.heap.size wc (w10.alloc (.cells #[.int .u32 z0, .int .u32 z1, .int .u32 z2, .int .u32 z3, .int .u32 z4, .int .u32 z5, .int .i64 z6, .int .i64 z7, .int .i64 z8, .int .u32 z9, .int .u32 z10] 57))) := Lib.hid (hb10.trans (hA11.mono hb10.size))
        have HX11 := Lib.hid (Row.new w10 57 [.int .u32 z0, .int .u32 z1, .int .u32 z2, .int .u32 z3, .int .u32 z4, .int .u32 z5, .int .i64 z6, .int .i64 z7, .int .i64 z8, .int .u32 z9, .int .u32 z10])
        change Hid (Row (w10.alloc (.cells #[.int .u32 z0, .int .u32 z1, .int .u32 z2, .int .u32 z3, .int .u32 z4, .int .u32 z5, .int .i64 z6, .int .i64 z7, .int .i64 z8, .int .u32 z9, .int .u32 z10] 57)) _ _ _) at HX11
        clear hb10 hA11
        go_upto_region 45 with fail
        generalize w10.alloc (.cells #[.int .u32 z0, .int .u32 z1, .int .u32 z2, .int .u32 z3, .int .u32 z4, .int .u32 z5, .int .i64 z6, .int .i64 z7, .int .i64 z8, .int .u32 z9, .int .u32 z10] 57) = w11 at *
        generalize w10.heap.size = fb at *
        have HC11 : Hid (∀ i q, LR[i]? = some q → ∃ g, A7 = some ⟨g, 0, none⟩ ∧ g < w11.heap.size ∧ ∀ k, k < 11 → w11.cell? ⟨g, i * 11 + k, none⟩ = q.cells[k]?) := Lib.hid (fun i q hq => by
          obtain ⟨g, e1, e2, e3⟩ := HC9.out i q hq
          exact ⟨g, e1, Nat.lt_of_lt_of_le e2 HB11.out.size, fun k hk => (HB11.out.cell (p := ⟨g, i * 11 + k, none⟩) e2).trans (e3 k hk)⟩)
        have HB12 : Hid (Go.RowKit.Below w3.heap.size w3 w11) := Lib.hid (HB9.out.trans (HB11.out.mono HB9.out.size))
        clear HC9 HB11 HB9
        obtain ⟨w9, hw9⟩ : ∃ w9, w9 = wc := ⟨_, rfl⟩
        subst hw9
        go_cut [19, 256] (fun v19 v256 wx => v19 = .slice A7 ln cap7 ∧ v256 = .bool false ∧ ∃ d, wx = w11.drewN d)
        case first => as_aux_lemma =>
          have f0 : w11.cell? ⟨fb, 0, none⟩ = some (.int .u32 z0) := HX11.out.cell 0
          have f1 : w11.cell? ⟨fb, 1, none⟩ = some (.int .u32 z1) := HX11.out.cell 1
          have f2 : w11.cell? ⟨fb, 2, none⟩ = some (.int .u32 z2) := HX11.out.cell 2
          have f3 : w11.cell? ⟨fb, 3, none⟩ = some (.int .u32 z3) := HX11.out.cell 3
          have f4 : w11.cell? ⟨fb, 4, none⟩ = some (.int .u32 z4) := HX11.out.cell 4
          have f5 : w11.cell? ⟨fb, 5, none⟩ = some (.int .u32 z5) := HX11.out.cell 5
          have f6 : w11.cell? ⟨fb, 6, none⟩ = some (.int .i64 z6) := HX11.out.cell 6
          have f7 : w11.cell? ⟨fb, 7, none⟩ = some (.int .i64 z7) := HX11.out.cell 7
          have f8 : w11.cell? ⟨fb, 8, none⟩ = some (.int .i64 z8) := HX11.out.cell 8
          have f9 : w11.cell? ⟨fb, 9, none⟩ = some (.int .u32 z9) := HX11.out.cell 9
          have f10 : w11.cell? ⟨fb, 10, none⟩ = some (.int .u32 z10) := HX11.out.cell 10
          rcases HIS.out with ⟨rfl, hy⟩ | ⟨rfl, hy⟩
          · obtain ⟨rg, hA7, _, hrc⟩ := HC11.out 0 _ hy
            have hln : 0 < ln := by rw [← HLN.out]; exact (List.getElem?_eq_some_iff.1 hy).1
            have d1 : decide (0 < (ln : Int)) = true := decide_eq_true (by omega)
            have ln0 : (0 : Int) < (ln : Int) := by omega
            subst hA7
            have e1 := fun w => run_neq_record ⟨z0, z1, z2, z3, z4, z5, z6, z7, z8, z9, z10⟩ ⟨z0, z1, z2, z3, z4, z5, z6, z7, z8, z9, z10⟩ w
            rw [sameR_iff.2 rfl] at e1
            simp only [Rc.agg, Rc.cells] at e1
            have g0 : w11.cell? ⟨rg, 0, none⟩ = some (.int .u32 z0) := by have := hrc 0 (by omega); rw [Nat.zero_mul, Nat.zero_add] at this; exact this
            have g1 : w11.cell? ⟨rg, 1, none⟩ = some (.int .u32 z1) := by have := hrc 1 (by omega); rw [Nat.zero_mul, Nat.zero_add] at this; exact this
            have g2 : w11.cell? ⟨rg, 2, none⟩ = some (.int .u32 z2) := by have := hrc 2 (by omega); rw [Nat.zero_mul, Nat.zero_add] at this; exact this
            have g3 : w11.cell? ⟨rg, 3, none⟩ = some (.int .u32 z3) := by have := hrc 3 (by omega); rw [Nat.zero_mul, Nat.zero_add] at this; exact this
            have g4 : w11.cell? ⟨rg, 4, none⟩ = some (.int .u32 z4) := by have := hrc 4 (by omega); rw [Nat.zero_mul, Nat.zero_add] at this; exact this
            have g5 : w11.cell? ⟨rg, 5, none⟩ = some (.int .u32 z5) := by have := hrc 5 (by omega); rw [Nat.zero_mul, Nat.zero_add] at this; exact this
            have g6 : w11.cell? ⟨rg, 6, none⟩ = some (.int .i64 z6) := by have := hrc 6 (by omega); rw [Nat.zero_mul, Nat.zero_add] at this; exact this
            have g7 : w11.cell? ⟨rg, 7, none⟩ = some (.int .i64 z7) := by have := hrc 7 (by omega); rw [Nat.zero_mul, Nat.zero_add] at this; exact this
            have g8 : w11.cell? ⟨rg, 8, none⟩ = some (.int .i64 z8) := by have := hrc 8 (by omega); rw [Nat.zero_mul, Nat.zero_add] at this; exact this
            have g9 : w11.cell? ⟨rg, 9, none⟩ = some (.int .u32 z9) := by have := hrc 9 (by omega); rw [Nat.zero_mul, Nat.zero_add] at this; exact this
            have g10 : w11.cell? ⟨rg, 10, none⟩ = some (.int .u32 z10) := by have := hrc 10 (by omega); rw [Nat.zero_mul, Nat.zero_add] at this; exact this
            clear hy hrc
            go_quiet (fail)
            go_wp2
            go_meet
            case rel => exact ⟨rfl, rfl, _, rfl⟩
          · have hln : ln = 0 := by rw [← HLN.out, hy]; rfl
            subst hln
            clear hy
            go_quiet (fail)
            go_wp2
            go_meet
            case rel => exact ⟨rfl, rfl, _, rfl⟩
        case rest => as_aux_lemma =>
        obtain ⟨hv19, hv256, d12, hd12⟩ := hcut
        subst hv19
        subst hv256
        have HB13 : Hid (Go.RowKit.Below w3.heap.size w3 wc) := Lib.hid (by rw [hd12]; exact below_drewN HB12.out d12)
        have HC13 : Hid (∀ i q, LR[i]? = some q → ∃ g, A7 = some ⟨g, 0, none⟩ ∧ ∀ k, k < 11 → wc.cell? ⟨g, i * 11 + k, none⟩ = q.cells[k]?) := Lib.hid (fun i q hq => by
          obtain ⟨g, e1, e2, e3⟩ := HC11.out i q hq
          exact ⟨g, e1, fun k hk => by rw [hd12]; exact e3 k hk⟩)
        clear hd12 HC11 HB12 HX11
        have HOK2 : Hid (∀ w', Go.RowKit.Below w3.heap.size w3 w' → ∀ q u, O[q]? = some u → w'.cell? ⟨og, q, none⟩ = some (.int .i64 u)) := Lib.hid (fun w' hb q u hq => by
          obtain ⟨g, e1, e2, _⟩ := HOC.out q (.int .i64 u) (by rw [List.getElem?_map, hq]; rfl)
          have hge : g = og := by injection e1 with e1; injection e1 with e1; exact e1.symm
          subst hge
          exact (hb.cell (p := ⟨g, q, none⟩) (cell_lt e2)).trans e2)
        have HTK2 : Hid (∀ w', Go.RowKit.Below w3.heap.size w3 w' → ∀ q r, T[q]? = some r → ∀ i, i < 11 → w'.cell? ⟨tg, q * 11 + i, none⟩ = r.cells[i]?) := Lib.hid (fun w' hb q r hq i hi => by
          obtain ⟨g, e1, e2, e3⟩ := HTC.out q r hq
          have hge : g = tg := by injection e1 with e1; injection e1 with e1; exact e1.symm
          subst hge
          exact (hb.cell (p := ⟨g, q * 11 + i, none⟩) e2).trans (e3 i hi))
        go_wp2_with fail
        go_loopw [23, 24] (fun x y w' => ∃ q d : Nat, q ≤ m ∧ y = .int .i64 q ∧ x = .int .i64 (rowUp ⟨r4, r5, r6⟩ T O q : Nat) ∧ w' = wc.drewN d) (fun _ y _ => m - (intOf y).toNat)
        case atStart => exact ⟨0, 0, by omega, rfl, by rw [rowUp_zero]; rfl, rfl⟩
        case round =>
          obtain ⟨q, d, hqm, rfl, rfl, hwr⟩ := hrel
          have q0 : (0 : Int) ≤ (q : Int) := by omega
          have HB14 : Hid (Go.RowKit.Below w3.heap.size w3 wr) := Lib.hid (by rw [hwr]; exact below_drewN HB13.out d)
          have HWN : Hid (∀ e, wr.drewN e = wc.drewN (d + e)) := Lib.hid fun e => by rw [hwr, World.drewN_drewN]
          have HWR := Lib.hid hwr
          have hpl := rowUp_le ⟨r4, r5, r6⟩ T O q
          have k1 : (k : Int) < (m : Int) := by omega
          by_cases hql : q < m
          · have d2 : decide ((q : Int) < (m : Int)) = true := decide_eq_true (by omega)
            have q1 : (q : Int) < (m : Int) := by omega
            obtain ⟨rq, hrq⟩ : ∃ rq, T[q]? = some rq := ⟨_, List.getElem?_eq_getElem (by rw [HM.out]; exact hql)⟩
            obtain ⟨uq, huq⟩ : ∃ uq, O[q]? = some uq := ⟨_, List.getElem?_eq_getElem (by rw [HOL.out, HM.out]; exact hql)⟩
            have HSTP := Lib.hid (rowUp_step (k := ⟨r4, r5, r6⟩) HST.out.len hrq huq)
            have huz := HST.out.zo uq (List.mem_of_getElem? huq)
            have HRQ := Lib.hid hrq
            have HUQ := Lib.hid huq
            have HAT : Hid (uq = 0 → rq.key = ⟨r4, r5, r6⟩ → LR[rowUp ⟨r4, r5, r6⟩ T O q]? = some rq) := Lib.hid (fun h1 h2 => by
              subst h1
              rw [← HRL.out]
              exact rowUp_at HST.out.len hrq huq h2)
            obtain ⟨p, hp⟩ : ∃ p, rowUp ⟨r4, r5, r6⟩ T O q = p := ⟨_, rfl⟩
            rw [hp] at HSTP HAT hpl ⊢
            have oc0 := HOK2.out wr HB14.out q uq huq
            obtain ⟨p0, p1, p2, p3, p4, p5, p6, p7, p8, p9, p10⟩ := rq
            clear hrq huq hp hwr
            rcases huz with rfl | rfl
            · have e2 := fun w => run_eql_row ⟨p4, p5, p6⟩ ⟨r4, r5, r6⟩ w
              simp only at e2
              have c4 : wr.cell? ⟨tg, k * 11 + 4, none⟩ = some (.int .u32 r4) := HTK.out _ HB14.out 4 (by omega)
              have c5 : wr.cell? ⟨tg, k * 11 + 4 + 1, none⟩ = some (.int .u32 r5) := HTK.out _ HB14.out 5 (by omega)
              have c6 : wr.cell? ⟨tg, k * 11 + 4 + 2, none⟩ = some (.int .i64 r6) := HTK.out _ HB14.out 6 (by omega)
              have m4 : wr.cell? ⟨tg, q * 11 + 4, none⟩ = some (.int .u32 p4) := HTK2.out wr HB14.out q _ HRQ.out 4 (by omega)
              have m5 : wr.cell? ⟨tg, q * 11 + 4 + 1, none⟩ = some (.int .u32 p5) := HTK2.out wr HB14.out q _ HRQ.out 5 (by omega)
              have m6 : wr.cell? ⟨tg, q * 11 + 4 + 2, none⟩ = some (.int .i64 p6) := HTK2.out wr HB14.out q _ HRQ.out 6 (by omega)
              by_cases hk : (⟨p4, p5, p6⟩ : Key) = ⟨r4, r5, r6⟩
              · rw [sameK_iff.2 hk] at e2
                have hat := HAT.out rfl hk
                obtain ⟨rg, hA7, hrc⟩ := HC13.out p _ hat
                have hpl2 : p < ln := by rw [← HLN.out]; exact (List.getElem?_eq_some_iff.1 hat).1
                have d3 : decide ((ln : Int) ≤ (p : Int)) = false := decide_eq_false (by omega)
                have pl0 : (0 : Int) ≤ (p : Int) := by omega
                have pl1 : (p : Int) < (ln : Int) := by omega
                have HSTP2 : Hid (rowUp ⟨r4, r5, r6⟩ T O (q + 1) = p + 1) := Lib.hid (by rw [HSTP.out, if_pos ⟨rfl, hk⟩])
                have e1 := fun w => run_neq_record ⟨p0, p1, p2, p3, p4, p5, p6, p7, p8, p9, p10⟩ ⟨p0, p1, p2, p3, p4, p5, p6, p7, p8, p9, p10⟩ w
                rw [sameR_iff.2 rfl] at e1
                simp only [Rc.agg, Rc.cells] at e1
                subst hA7
                have HRC := Lib.hid hrc
                clear hat hk hrc HSTP HAT
                go_wp2_with fail
                go_quiet (fail)
                go_wp2_with fail
                have HWN2 : Hid (∀ e, (wr.drewN nq).drewN e = wc.drewN (d + (nq + e))) := Lib.hid fun e => by rw [World.drewN_drewN, HWN.out]
                have n0 : (wr.drewN nq).cell? ⟨rg, p * 11, none⟩ = some (.int .u32 p0) := by have := HRC.out 0 (by omega); rw [HWR.out]; exact this
                have n1 : (wr.drewN nq).cell? ⟨rg, p * 11 + 1, none⟩ = some (.int .u32 p1) := by have := HRC.out 1 (by omega); rw [HWR.out]; exact this
                have n2 : (wr.drewN nq).cell? ⟨rg, p * 11 + 2, none⟩ = some (.int .u32 p2) := by have := HRC.out 2 (by omega); rw [HWR.out]; exact this
                have n3 : (wr.drewN nq).cell? ⟨rg, p * 11 + 3, none⟩ = some (.int .u32 p3) := by have := HRC.out 3 (by omega); rw [HWR.out]; exact this
                have n4 : (wr.drewN nq).cell? ⟨rg, p * 11 + 4, none⟩ = some (.int .u32 p4) := by have := HRC.out 4 (by omega); rw [HWR.out]; exact this
                have n5 : (wr.drewN nq).cell? ⟨rg, p * 11 + 5, none⟩ = some (.int .u32 p5) := by have := HRC.out 5 (by omega); rw [HWR.out]; exact this
                have n6 : (wr.drewN nq).cell? ⟨rg, p * 11 + 6, none⟩ = some (.int .i64 p6) := by have := HRC.out 6 (by omega); rw [HWR.out]; exact this
                have n7 : (wr.drewN nq).cell? ⟨rg, p * 11 + 7, none⟩ = some (.int .i64 p7) := by have := HRC.out 7 (by omega); rw [HWR.out]; exact this
                have n8 : (wr.drewN nq).cell? ⟨rg, p * 11 + 8, none⟩ = some (.int .i64 p8) := by have := HRC.out 8 (by omega); rw [HWR.out]; exact this
                have n9 : (wr.drewN nq).cell? ⟨rg, p * 11 + 9, none⟩ = some (.int .u32 p9) := by have := HRC.out 9 (by omega); rw [HWR.out]; exact this
                have n10 : (wr.drewN nq).cell? ⟨rg, p * 11 + 10, none⟩ = some (.int .u32 p10) := by have := HRC.out 10 (by omega); rw [HWR.out]; exact this
                have m0 : (wr.drewN nq).cell? ⟨tg, q * 11, none⟩ = some (.int .u32 p0) := HTK2.out wr HB14.out q _ HRQ.out 0 (by omega)
                have m1 : (wr.drewN nq).cell? ⟨tg, q * 11 + 1, none⟩ = some (.int .u32 p1) := HTK2.out wr HB14.out q _ HRQ.out 1 (by omega)
                have m2 : (wr.drewN nq).cell? ⟨tg, q * 11 + 2, none⟩ = some (.int .u32 p2) := HTK2.out wr HB14.out q _ HRQ.out 2 (by omega)
                have m3 : (wr.drewN nq).cell? ⟨tg, q * 11 + 3, none⟩ = some (.int .u32 p3) := HTK2.out wr HB14.out q _ HRQ.out 3 (by omega)
                have m4 : (wr.drewN nq).cell? ⟨tg, q * 11 + 4, none⟩ = some (.int .u32 p4) := HTK2.out wr HB14.out q _ HRQ.out 4 (by omega)
                have m5 : (wr.drewN nq).cell? ⟨tg, q * 11 + 5, none⟩ = some (.int .u32 p5) := HTK2.out wr HB14.out q _ HRQ.out 5 (by omega)
                have m6 : (wr.drewN nq).cell? ⟨tg, q * 11 + 6, none⟩ = some (.int .i64 p6) := HTK2.out wr HB14.out q _ HRQ.out 6 (by omega)
                have m7 : (wr.drewN nq).cell? ⟨tg, q * 11 + 7, none⟩ = some (.int .i64 p7) := HTK2.out wr HB14.out q _ HRQ.out 7 (by omega)
                have m8 : (wr.drewN nq).cell? ⟨tg, q * 11 + 8, none⟩ = some (.int .i64 p8) := HTK2.out wr HB14.out q _ HRQ.out 8 (by omega)
                have m9 : (wr.drewN nq).cell? ⟨tg, q * 11 + 9, none⟩ = some (.int .u32 p9) := HTK2.out wr HB14.out q _ HRQ.out 9 (by omega)
                have m10 : (wr.drewN nq).cell? ⟨tg, q * 11 + 10, none⟩ = some (.int .u32 p10) := HTK2.out wr HB14.out q _ HRQ.out 10 (by omega)
                clear c4 c5 c6 oc0
                generalize wr.drewN nq = w15 at *
                go_quiet (fail)
                go_wp2_with fail
                go_roundw
                case rel => exact ⟨q + 1, _, by omega, by go_num, by rw [HSTP2.out]; go_num, HWN2.out _⟩
                case measure => simp [intOf] <;> omega
              · have hk2 : sameK ⟨p4, p5, p6⟩ ⟨r4, r5, r6⟩ = false := by rw [← Bool.not_eq_true]; exact fun e => hk (sameK_iff.1 e)
                rw [hk2] at e2
                have HSTP2 : Hid (rowUp ⟨r4, r5, r6⟩ T O (q + 1) = p) := Lib.hid (by rw [HSTP.out, if_neg (fun e => hk e.2)]; rfl)
                clear hk hk2 HSTP HAT
                go_wp2_with fail
                go_quiet (fail)
                go_wp2_with fail
                go_roundw
                case rel => exact ⟨q + 1, _, by omega, by go_num, by rw [HSTP2.out], HWN.out _⟩
                case measure => simp [intOf] <;> omega
            · have HSTP2 : Hid (rowUp ⟨r4, r5, r6⟩ T O (q + 1) = p) := Lib.hid (by rw [HSTP.out, if_neg (fun e => by cases e.1)]; rfl)
              clear HSTP HAT
              go_wp2_with fail
              go_quiet (fail)
              go_wp2_with fail
              go_roundw
              case rel => exact ⟨q + 1, _, by omega, by go_num, by rw [HSTP2.out], HWN.out _⟩
              case measure => simp [intOf] <;> omega
          · have d2 : decide ((q : Int) < (m : Int)) = false := decide_eq_false (by omega)
            have hqe : q = m := by omega
            have hup : rowUp ⟨r4, r5, r6⟩ T O q = ln := by
              rw [hqe, ← HM.out, rowUp_all _ HST.out.len, ← HLN.out, ← HRL.out]; rfl
            rw [hup]
            clear hup hqe hpl hwr
            go_wp2_with fail
            go_roundw
            case rel => exact ⟨k + 1, by omega, by go_num, HB14.out⟩
            case measure => simp [intOf] <;> omega
      · have d0 : decide ((k : Int) < (m : Int)) = false := decide_eq_false (by omega)
        have HBF : Hid (Go.RowKit.Below w.heap.size w wr) := Lib.hid (HBE.out.trans (hb.mono HBE.out.size))
        clear hb
        go_wp2_with fail
        go_ret
        exact ⟨rfl, HBF.out⟩
end Go.Proofs.Ytgndpodeedjohaa
