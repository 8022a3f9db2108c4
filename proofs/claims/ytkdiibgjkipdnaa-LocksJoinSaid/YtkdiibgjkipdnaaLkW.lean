/-
  LocksJoin: the walk.
-/
import Derived.Test.YtkdiibgjkipdnaaLkV
import Derived.Test.YtkdiibgjkipdnaaAwake
import Derived.Deep.CutBlock
import Derived.Deep.DeepCutAuto
import Derived.Deep.RegionHeld3
namespace Go.Proofs.Ytkdiibgjkipdnaa
open Go.RowKit Go.Maps
set_option linter.unusedSimpArgs false
set_option linter.unusedVariables false

theorem handle1_c (w : World) : Calls Try.prog 9 #[.int .i64 1] w fun e w' => e = .returned (.agg #[.int .u32 1, .int .u32 1]) ∧ Below w.heap.size w w' := handle_c 1 w (by omega)
theorem handleG_c (k : Nat) (w : World) (hk : k < 6) : Calls Try.prog 9 #[.int .i64 (11 + (k : Int))] w fun e w' => e = .returned (.agg #[.int .u32 (11 + (k : Int)), .int .u32 1]) ∧ Below w.heap.size w w' := by
  have := handle_c (11 + k) w (by omega)
  rw [Int.natCast_add] at this
  exact this
theorem pick6_c (c : Int) (w : World) (hc : (Lit.int .i64 c).wf = true) : Calls Try.prog 10 #[.int .i64 c, .int .i64 6] w fun e w' => e = .returned (.int .i64 (pk c 6 : Nat)) ∧ w = w' := pick_c c 6 w hc (by omega) (by omega)
set_option maxHeartbeats 8000000 in
set_option maxRecDepth 100000 in
theorem join_walk (A : Option Addr) (n c : Nat) (os : List Cnt) (w : World) (hx : Counts w A n os) :
    Calls Try.prog 4 #[.slice A n c] w fun e w' => e = .returned (.bool true) ∧ Below w.heap.size w w' := by
  have HX := Lib.hid hx
  clear hx
  go_enter Try.func4, Try.ntmps4
  go_wp2_with fail
  refine (awake16_c _).mono ?_
  rintro e w1 ⟨rfl, hb1⟩
  have HB1 := Lib.hid hb1
  clear hb1
  go_wp2_with fail
  refine (new_c _).mono ?_
  rintro e w2 ⟨rfl, hbk, hb2⟩
  have HBK := Lib.hid hbk
  have HB2 : Hid (Below w.heap.size w w2) := Lib.hid (HB1.out.trans (hb2.mono HB1.out.size))
  have hlo : w.heap.size ≤ w1.heap.size := HB1.out.size
  clear hbk hb2 HB1
  go_wp2_with fail
  refine (locksNew_c _ _ _ HBK.out).mono ?_
  rintro e w3 ⟨rfl, hlk, hb3⟩
  have e0 := fun w => eql_locks_nil ⟨w2.heap.size + 1, 0, none⟩ w
  have e1 := fun w => eql_book_nil ⟨w1.heap.size + 1, 0, none⟩ w
  have HLK := Lib.hid hlk
  have HB3 : Hid (Below w.heap.size w w3) := Lib.hid (HB2.out.trans (hb3.mono HB2.out.size))
  clear hlk hb3
  go_wp2_with (first
    | (go_at_call 9; refine (handle1_c _).mono ?_; rintro e w4 ⟨rfl, hb4⟩; have HLK4 := Lib.hid (HLK.out.below hb4); have HB4 : Hid (Below w.heap.size w w4) := Lib.hid (HB3.out.trans (hb4.mono HB3.out.size)); clear hb4)
    | (go_at_call 8; refine (makeGroup_c _ _ _ _ _ _ 1 1 _ HLK4.out rfl rfl rfl rfl (by omega)).mono ?_; rintro e w5 ⟨rfl, gb, hgb, hrow, hlk5, hbut⟩))
  have HJ0 : Hid (Join w w5 (w2.heap.size + 1) w2.heap.size (w1.heap.size + 1) (0 + 1) gb (fun s' g' => if s' = 1 ∧ g' = 1 then groupV gb else .nilIface) (newBk w1.heap.size) (.slice none 0 0) 0 0) := Lib.hid (by
    have hsz := HB4.out.size
    refine ⟨hlk5, hrow, World.ownsRow_nil _ _ _ _, by omega, fun _ => rfl, ?_, ?_, List.Pairwise.nil, ?_, by simp [newBk], But.below HB4.out hbut hsz (fun k e => by rw [e]; exact HB2.out.size), ?_, by omega⟩
    · intro x hx; cases hx
    · intro x hx; cases hx
    · intro x hx; cases hx
    · rintro k (e | e | e | e | ⟨x, hx, _⟩)
      · omega
      · have : k = w1.heap.size := e
        omega
      · cases e
      · cases e
      · cases hx)
  obtain ⟨lp, hlp⟩ : ∃ lp, w2.heap.size + 1 = lp := ⟨_, rfl⟩
  obtain ⟨mp, hmp⟩ : ∃ mp, w2.heap.size = mp := ⟨_, rfl⟩
  obtain ⟨bp, hbp⟩ : ∃ bp, w1.heap.size + 1 = bp := ⟨_, rfl⟩
  obtain ⟨f, hf⟩ : ∃ f : Int → Int → Value, (fun s' g' => if s' = 1 ∧ g' = 1 then groupV gb else .nilIface) = f := ⟨_, rfl⟩
  have HF : Hid (f 1 1 = groupV gb) := Lib.hid (by rw [← hf]; rfl)
  rw [hlp, hmp, hbp, hf] at HJ0
  rw [hlp, hbp]
  clear hrow hlk5 hbut e0 e1 HLK HB3 HLK4 HB4 hgb HBK HB2 hlp hmp hbp hf hlo
  go_loopw [7, 8, 9] (fun lv x i wr => ∃ (j : Nat) (B : Bk) (n' : Int), j ≤ 500 ∧ i = .int .i64 j ∧ x = .int .i64 n' ∧ Join w wr lp mp bp (0 + 1) gb f B lv n' j) (fun _ _ i _ => 500 - (intOf i).toNat)
  case atStart => exact ⟨0, _, 0, by omega, rfl, rfl, HJ0.out⟩
  case round =>
    obtain ⟨j, B, n', hj, rfl, rfl, hjo⟩ := hrel
    have HJ := Lib.hid hjo
    have j0 : (0 : Int) ≤ (j : Int) := by omega
    clear hjo HJ0
    by_cases hjn : j < n
    · by_cases hj5 : j < 500
      · have d0 : decide ((j : Int) < (n : Int)) = true := decide_eq_true (by omega)
        have d1 : decide ((j : Int) < 500) = true := decide_eq_true (by omega)
        obtain ⟨o, ho⟩ : ∃ o, os[j]? = some o := ⟨_, List.getElem?_eq_getElem (by rw [HX.out.len]; exact hjn)⟩
        obtain ⟨ad, hA, hcell⟩ := HX.out.at_ j o ho
        have hok := HX.out.ok o (List.mem_of_getElem? ho)
        subst hA
        obtain ⟨wt, og, on⟩ := o
        have HCL : Hid (∀ w', Below w.heap.size w w' → w'.cell? (ad.add (j * 3)) = some (.bool wt) ∧ w'.cell? ⟨(ad.add (j * 3)).block, (ad.add (j * 3)).off + 1, none⟩ = some (.int .i64 og) ∧ w'.cell? ⟨(ad.add (j * 3)).block, (ad.add (j * 3)).off + 2, none⟩ = some (.int .i64 on)) := Lib.hid fun w' hb => by
          have q0 := hcell 0 _ rfl
          have q1 := hcell 1 _ rfl
          have q2 := hcell 2 _ rfl
          rw [Nat.add_zero] at q0
          rw [← addr_add] at q1 q2
          change w.cell? ⟨(ad.add (j * 3)).block, (ad.add (j * 3)).off + 1, none⟩ = _ at q1
          change w.cell? ⟨(ad.add (j * 3)).block, (ad.add (j * 3)).off + 2, none⟩ = _ at q2
          exact ⟨(hb.cell (cell_lt q0)).trans q0, (hb.cell (cell_lt q1)).trans q1, (hb.cell (cell_lt q2)).trans q2⟩
        have HOK := Lib.hid hok
        obtain ⟨q0, q1, q2⟩ := HCL.out wr HJ.out.bel
        clear hcell hok ho
        have hk6 : pk og 6 < 6 := pk_lt (by omega)
        have CP := Lib.hid (fun w => pick6_c og w HOK.out.g)
        obtain ⟨k, hk⟩ : ∃ k, pk og 6 = k := ⟨_, rfl⟩
        rw [hk] at hk6 CP
        clear hk
        have wk : IntKind.i64.wrap (11 + (k : Int)) = 11 + (k : Int) := by simp [IntKind.wrap, IntKind.bits, IntKind.signed, Int.bmod]; omega
        have CG := Lib.hid (fun w => handleG_c k w hk6)
        go_upto_region 12 with (first
          | (go_at_call 10; refine (CP.out _).mono ?_; rintro e w6 ⟨rfl, rfl⟩)
          | (go_at_call 9; refine (CG.out _).mono ?_; rintro e w6 ⟨rfl, hb6⟩))
        have hA7 : Below w6.heap.size w6 (w6.alloc (.cells #[.int .u32 (11 + (k : Int)), .int .u32 1] 35)) := (Below.refl _ _).alloc (Nat.le_refl _) _
        have HJ7 := Lib.hid ((HJ.out.below hb6).below hA7)
        have HG7 := Lib.hid (Row.new w6 35 [.int .u32 (11 + (k : Int)), .int .u32 1])
        change Hid (Row (w6.alloc (.cells #[.int .u32 (11 + (k : Int)), .int .u32 1] 35)) _ _ _) at HG7
        clear hb6 hA7 HJ q0 q1 q2
        generalize w6.alloc (.cells #[.int .u32 (11 + (k : Int)), .int .u32 1] 35) = w7 at *
        generalize w6.heap.size = gq at *
        obtain ⟨q0, q1, q2⟩ := HCL.out w7 HJ7.out.bel
        go_upto_if 70 with fail
        go_cut [7, 8] (fun lv x wx => ∃ (B : Bk) (n2 : Int), x = .int .i64 n2 ∧ Join w wx lp mp bp (0 + 1) gb f B lv n2 (j + 1))
        case first =>
          cases wt with
          | true =>
            obtain ⟨A7, c7, hlv, hlc⟩ := own_form HJ7.out.line
            obtain ⟨L, hL⟩ : ∃ L, B.N.length = L := ⟨_, rfl⟩
            have HL := Lib.hid hL
            have HLC := Lib.hid hlc
            have hlj : L ≤ 500 := by rw [← hL]; exact Nat.le_trans HJ7.out.few.2.2.2 (by omega)
            rw [hL] at hlv
            subst hlv
            clear hL hlc q0 q1 q2
            go_wp2_with fail
            go_loopw [11, 12] (fun x y wr => ∃ i d : Nat, i ≤ L ∧ y = .int .i64 i ∧ x = .bool ((B.N.take i).any fun q => sameH q.rc.hs q.rc.hg (11 + (k : Int)) 1) ∧ wr = w7.drewN d) (fun _ y _ => L - (intOf y).toNat)
            case atStart => exact ⟨0, 0, by omega, rfl, rfl, rfl⟩
            case round =>
              obtain ⟨i, d, hi, rfl, rfl, hwr⟩ := hrel
              have i0 : (0 : Int) ≤ (i : Int) := by omega
              have HWN : Hid (∀ e, wr.drewN e = w7.drewN (d + e)) := Lib.hid fun e => by rw [hwr, World.drewN_drewN]
              by_cases hil : i < L
              · have d2 : decide ((i : Int) < (L : Int)) = true := decide_eq_true (by omega)
                have i1 : (i : Int) < (L : Int) := by omega
                obtain ⟨y, hy⟩ : ∃ y, B.N[i]? = some y := ⟨_, List.getElem?_eq_getElem (by rw [HL.out]; exact hil)⟩
                obtain ⟨g1, hA1, y0, _⟩ := HLC.out (i * 2) _ (hands_at hy).1
                obtain ⟨g2, hA2, y1, _⟩ := HLC.out (i * 2 + 1) _ (hands_at hy).2
                have hgg : g2 = g1 := by rw [hA1] at hA2; injection hA2 with e; injection e with e; exact e.symm
                subst hgg
                subst hA1
                have y0 : wr.cell? ⟨g2, i * 2, none⟩ = some (.int .u32 y.rc.hs) := by rw [hwr]; exact y0
                have y1 : wr.cell? ⟨g2, i * 2 + 1, none⟩ = some (.int .u32 y.rc.hg) := by rw [hwr]; exact y1
                have g0 : wr.cell? ⟨gq, 0, none⟩ = some (.int .u32 (11 + (k : Int))) := by rw [hwr]; exact HG7.out.cell 0
                have g1 : wr.cell? ⟨gq, 1, none⟩ = some (.int .u32 1) := by rw [hwr]; exact HG7.out.cell 1
                have e1 := fun w => run_eql_handle y.rc.hs y.rc.hg (11 + (k : Int)) 1 w
                have HAN : Hid (((B.N.take (i + 1)).any fun q => sameH q.rc.hs q.rc.hg (11 + (k : Int)) 1) = (((B.N.take i).any fun q => sameH q.rc.hs q.rc.hg (11 + (k : Int)) 1) || sameH y.rc.hs y.rc.hg (11 + (k : Int)) 1)) := Lib.hid (by rw [take_next hy, List.any_append]; simp)
                obtain ⟨b1, hb1⟩ : ∃ b1, ((B.N.take i).any fun q => sameH q.rc.hs q.rc.hg (11 + (k : Int)) 1) = b1 := ⟨_, rfl⟩
                obtain ⟨b2, hb2⟩ : ∃ b2, sameH y.rc.hs y.rc.hg (11 + (k : Int)) 1 = b2 := ⟨_, rfl⟩
                rw [hb1, hb2] at HAN
                rw [hb1]
                rw [hb2] at e1
                clear hb1 hb2 hy hA2 hwr
                cases b1 with
                | true =>
                  go_wp2_with fail
                  go_quiet (fail)
                  go_wp2_with fail
                  go_roundw
                  case rel => exact ⟨i + 1, _, by omega, by go_num, by rw [HAN.out]; rfl, HWN.out _⟩
                  case measure => simp [intOf] <;> omega
                | false =>
                  go_wp2_with fail
                  go_quiet (fail)
                  go_wp2_with fail
                  go_roundw
                  case rel => exact ⟨i + 1, _, by omega, by go_num, by rw [HAN.out]; rfl, HWN.out _⟩
                  case measure => simp [intOf] <;> omega
              · have d2 : decide ((i : Int) < (L : Int)) = false := decide_eq_false (by omega)
                have hiL : B.N.take i = B.N := List.take_of_length_le (by rw [HL.out]; omega)
                have HJ8 : Hid (Join w wr lp mp bp (0 + 1) gb f B (.slice A7 L c7) n' j) := Lib.hid (by rw [hwr]; exact HJ7.out.below (below_drewN (Below.refl _ _) d))
                have HG8 : Hid (Row wr gq 35 [.int .u32 (11 + (k : Int)), .int .u32 1]) := Lib.hid (by rw [hwr]; exact HG7.out.drewN d)
                rw [hiL]
                clear hiL hwr
                obtain ⟨b1, hb1⟩ : ∃ b1, (B.N.any fun q => sameH q.rc.hs q.rc.hg (11 + (k : Int)) 1) = b1 := ⟨_, rfl⟩
                rw [hb1]
                have HB1 := Lib.hid hb1
                clear hb1
                have q0 := HG8.out.cell 0
                have q1 := HG8.out.cell 1
                dsimp only [List.getElem?_cons_zero, List.getElem?_cons_succ] at q0 q1
                have hgn : ¬ B.own bp gq := HJ8.out.lk.book.mem.not_own HG8.out (by decide)
                have HCQ : Hid (∀ w', But (B.own bp) wr w' → w'.cell? ⟨gq, 0, none⟩ = some (.int .u32 (11 + (k : Int))) ∧ w'.cell? ⟨gq, 1, none⟩ = some (.int .u32 1)) := Lib.hid fun w' hb => ⟨(hb.row HG8.out hgn).cell 0, (hb.row HG8.out hgn).cell 1⟩
                have HDZ : Hid (Row (wr.alloc (.cells #[.int .i64 0, .int .i64 0, .int .u32 0, .int .u32 0, .bool false, .slice none 0 0] 46)).drew wr.heap.size 46 [.int .i64 0, .int .i64 0, .int .u32 0, .int .u32 0, .bool false, .slice none 0 0]) := Lib.hid (Row.drew (Row.new wr 46 [.int .i64 0, .int .i64 0, .int .u32 0, .int .u32 0, .bool false, .slice none 0 0]))
                have HD0 : Hid (Below wr.heap.size wr wr.drew) := Lib.hid (Below.refl _ _).drew
                have HD1 : Hid (Below wr.heap.size wr (wr.alloc (.cells #[.int .i64 0, .int .i64 0, .int .u32 0, .int .u32 0, .bool false, .slice none 0 0] 46)).drew) := Lib.hid ((Below.refl _ _).alloc (Nat.le_refl _) _).drew
                have hwf : (Lit.int .u32 (11 + (k : Int))).wf = true := by
                  have := wf_nat32 (n := 11 + k) (by omega)
                  rw [Int.natCast_add] at this
                  exact this
                have hz0 : sameH (11 + (k : Int)) 1 0 0 = false := by
                  rw [← Bool.not_eq_true]; intro e; have := (sameH_iff.1 e).2; omega
                have hfew := HJ8.out.few
                have CW := Lib.hid (fun w' (hw' : Below wr.heap.size wr w') => wait_c lp mp bp (0 + 1) f B 1 1 (11 + (k : Int)) 1 gb n' b1 w' (HJ8.out.below hw').lk rfl rfl hwf rfl HF.out (HJ8.out.below hw').gr hz0 rfl HJ8.out.ser HB1.out (by omega) (by omega) (by omega) (by omega))
                obtain ⟨ft, hft⟩ : ∃ ft : Int, (if b1 = false ∧ 0 < n' then 1 else 0) = ft := ⟨_, rfl⟩
                obtain ⟨er, her⟩ : ∃ er : Int, (if b1 then 163 else 0) = er := ⟨_, rfl⟩
                have HFT := Lib.hid hft
                have HER := Lib.hid her
                rw [hft, her] at CW
                unfold didV at CW
                clear hz0 hwf hfew hft her hgn
                go_upto_region 18 with fail
                go_cut [13, 14] (fun v13 v14 wx => ∃ z, v13 = .pointer (some ⟨z, 0, none⟩) ∧ v14 = .int .i64 er ∧ Row wx z 46 [.int .i64 ft, .int .i64 0, .int .u32 0, .int .u32 0, .bool false, .slice none 0 0] ∧ WEnd wr bp B ⟨1, 1, 4⟩ n' (11 + (k : Int)) 1 b1 wx)
                case first => as_aux_lemma =>
                  go_region_held3 (fun w' => w'.cell? ⟨gq, 0, none⟩ = some (.int .u32 (11 + (k : Int))) ∧ w'.cell? ⟨gq, 1, none⟩ = some (.int .u32 1))
                    ((refine HCQ.out _ ?_; first
                      | with_reducible exact But.of_below (Below.refl _ _).drew _
                      | with_reducible exact But.of_below hX9 _
                      | with_reducible exact (But.of_below hX9 _).alloc _
                      | with_reducible exact hYB
                      | with_reducible exact hYB.alloc _
                      | with_reducible exact hYB.store6New (Nat.le_refl _) _ _ _ _ _ _
                      | with_reducible exact hYB.store6New hX9.size _ _ _ _ _ _
                      | with_reducible exact But.of_below ((Below.refl _ _).alloc (Nat.le_refl _) _).drew _))
                    (first
                      | (go_at_call 9; refine (handle1_c _).mono ?_; rintro e w9 ⟨rfl, hb9⟩; have hX9 : Below wr.heap.size wr w9 := (by first | (with_reducible exact HD0.out.trans (hb9.mono HD0.out.size)) | (with_reducible exact HD1.out.trans (hb9.mono HD1.out.size))); (try (have hrz := (by with_reducible exact HDZ.out.grown hb9 : Row w9 wr.heap.size 46 [.int .i64 0, .int .i64 0, .int .u32 0, .int .u32 0, .bool false, .slice none 0 0]))))
                      | (go_at_call 15; refine (CW.out _ (by (first | (with_reducible exact hX9) | (with_reducible exact hX9.alloc hX9.size _)))).mono ?_; rintro e w10 ⟨rfl, hend⟩; have hYE : WEnd wr bp B ⟨1, 1, 4⟩ n' (11 + (k : Int)) 1 b1 w10 := (by first | (with_reducible exact WEnd.pre hX9 HJ8.out.lk.book hend) | (with_reducible exact WEnd.pre (hX9.alloc hX9.size _) HJ8.out.lk.book hend)); have hYB := hYE.but; have hzb := hend.but; (try (have hrz2 := (by with_reducible exact hzb.row hrz (HJ8.out.lk.book.below hX9 |>.mem.not_own hrz (by decide)) : Row w10 wr.heap.size 46 [.int .i64 0, .int .i64 0, .int .u32 0, .int .u32 0, .bool false, .slice none 0 0]); obtain ⟨⟨t0, t1, t2, t3, t4, t5⟩, s0, s1, s2, s3, s4, s5⟩ := hrz2.at6)); (try (have hrz3 := (by with_reducible exact hzb.row (Row.new w9 46 [.int .i64 0, .int .i64 0, .int .u32 0, .int .u32 0, .bool false, .slice none 0 0]) (HJ8.out.lk.book.below (hX9.alloc hX9.size _) |>.mem.not_own (Row.new w9 46 [.int .i64 0, .int .i64 0, .int .u32 0, .int .u32 0, .bool false, .slice none 0 0]) (by decide)) : Row w10 w9.heap.size 46 [.int .i64 0, .int .i64 0, .int .u32 0, .int .u32 0, .bool false, .slice none 0 0]); obtain ⟨⟨t0, t1, t2, t3, t4, t5⟩, s0, s1, s2, s3, s4, s5⟩ := hrz3.at6))))
                  all_goals (
                    go_wp2
                    go_meet
                    first
                      | (with_reducible exact ⟨w10.heap.size, rfl, rfl, Row.new w10 46 [.int .i64 ft, .int .i64 0, .int .u32 0, .int .u32 0, .bool false, .slice none 0 0], hYE.post ((Below.refl _ _).alloc (Nat.le_refl _) _)⟩)
                      | (with_reducible exact ⟨wr.heap.size, rfl, rfl, hrz2.store6 _ _ _ _ _ _, hYE.store6 (Nat.le_refl _) hrz2 _ _ _ _ _ _⟩)
                      | (with_reducible exact ⟨w9.heap.size, rfl, rfl, hrz3.store6 _ _ _ _ _ _, hYE.store6 hX9.size hrz3 _ _ _ _ _ _⟩))
                case rest => as_aux_lemma =>
                  obtain ⟨z, rfl, rfl, hrow, hend⟩ := hcut
                  obtain ⟨⟨x0, _⟩, _⟩ := hrow.at6
                  have HEND := Lib.hid hend
                  clear hrow hend CW HDZ HD0 HD1 HCQ q0 q1
                  cases b1 with
                  | true =>
                    obtain rfl : 0 = ft := by have := HFT.out; simpa using this
                    obtain rfl : 163 = er := by have := HER.out; simpa using this
                    have HJF : Hid (Join w wc lp mp bp (0 + 1) gb f B (.slice A7 L c7) n' (j + 1)) := Lib.hid (HJ8.out.below (by have := HEND.out; unfold WEnd at this; rw [if_neg (by simp)] at this; exact this)).more
                    clear HEND HFT HER
                    go_wp2_with fail
                    go_meet
                    exact ⟨B, n', rfl, HJF.out⟩
                  | false =>
                    by_cases hn0 : 0 < n'
                    · obtain rfl : 1 = ft := by have := HFT.out; rw [if_pos ⟨rfl, hn0⟩] at this; exact this
                      obtain rfl : 0 = er := by have := HER.out; simpa using this
                      obtain ⟨B', x, hp⟩ : ∃ B' x, Parks wr bp B ⟨1, 1, 4⟩ (11 + (k : Int)) 1 wc B' x := by have := HEND.out; unfold WEnd at this; rw [if_pos ⟨rfl, hn0⟩] at this; exact this
                      have HP := Lib.hid hp
                      have hl := own_move (w' := wc) HJ8.out.line (fun q hq => hp.bk.but.block q (HJ8.out.line.lt q hq).2 (HJ8.out.line_book q hq))
                      rw [HL.out] at hl
                      have HL8 := Lib.hid hl
                      have hG := hp.bk.but.row HG8.out (HJ8.out.lk.book.mem.not_own HG8.out (by decide))
                      have q0 := hG.cell 0
                      have q1 := hG.cell 1
                      dsimp only [List.getElem?_cons_zero, List.getElem?_cons_succ] at q0 q1
                      have dn : decide (0 < n') = true := decide_eq_true hn0
                      have hsw : w.heap.size ≤ wc.heap.size := Nat.le_trans HJ8.out.bel.size hp.bk.but.size
                      obtain ⟨i0, hi, hiz, his, hib⟩ := info_parts infoHand
                      have HI := Lib.hid hi
                      have HIZ := Lib.hid hiz
                      have HIS := Lib.hid his
                      have HIB := Lib.hid hib
                      clear hp hl hG HEND HFT HER hi hiz his hib
                      go_upto_region 22 with fail
                      go_wp2_with (first
                        | (at_builtin; refine wpList_append_own_at _ rfl _ _ 30 rfl w.heap.size 35 i0 (.agg #[.int .u32 0, .int .u32 0]) 2 8 Try.underlying30 HI.out HIZ.out HIS.out HIB.out rfl (by decide) _ L (hands B.N) rfl (World.ownsRow.alloc HL8.out _) ⟨wc.heap.size, 0, none⟩ 1 1 [.int .u32 (11 + (k : Int)), .int .u32 1] rfl rfl ?c1 ?c2 ?c3 ?c4 ?c5 ?_)
                        | go_in)
                      case c1 =>
                        intro q u hq
                        rw [add_zero]
                        exact ((Row.new wc 35 [.int .u32 (11 + (k : Int)), .int .u32 1]).cell q).trans hq
                      case c2 => intro u hu; simp at hu; rcases hu with rfl | rfl <;> rfl
                      case c3 => unfold maxLen; omega
                      case c4 => omega
                      case c5 => first | omega | (simp; omega)
                      intro v' w11 hown' hgrow _ _
                      rw [← HL.out] at hown'
                      have HJF : Hid (Join w w11 lp mp bp (0 + 1) gb f B' v' n' (j + 1)) := Lib.hid (HJ8.out.park HP.out hk6 (fun y hy => by have h1 := HB1.out; rw [List.any_eq_false] at h1; have := h1 y hy; simpa using this) hn0 hown' ((World.grownBy_alloc wc _ _).trans hgrow))
                      clear hown' hgrow HP HL8
                      go_wp2_with fail
                      go_meet
                      exact ⟨B', n', rfl, HJF.out⟩
                    · obtain rfl : 0 = ft := by have := HFT.out; rw [if_neg (fun e => hn0 e.2)] at this; exact this
                      obtain rfl : 0 = er := by have := HER.out; simpa using this
                      have dn : decide (0 < n') = false := decide_eq_false hn0
                      have HJF : Hid (Join w wc lp mp bp (0 + 1) gb f B (.slice A7 L c7) n' (j + 1)) := Lib.hid (HJ8.out.below (by have := HEND.out; unfold WEnd at this; rw [if_neg (fun e => hn0 e.2)] at this; exact this)).more
                      clear HEND HFT HER
                      go_wp2_with fail
                      go_meet
                      exact ⟨B, n', rfl, HJF.out⟩
          | false =>
            obtain ⟨A7, c7, hlv, hlc⟩ := own_form HJ7.out.line
            obtain ⟨L, hL⟩ : ∃ L, B.N.length = L := ⟨_, rfl⟩
            have HL := Lib.hid hL
            have HLC := Lib.hid hlc
            have hlj : L ≤ 500 := by rw [← hL]; exact Nat.le_trans HJ7.out.few.2.2.2 (by omega)
            rw [hL] at hlv
            subst hlv
            clear hL hlc
            have hbk : (ad.add (j * 3)).block < w.heap.size := cell_lt (HCL.out w (Below.refl _ _)).1
            have HCB : Hid (∀ w', But (fun q => B.own bp q ∨ q = gb) w7 w' → w'.cell? ⟨(ad.add (j * 3)).block, (ad.add (j * 3)).off + 2, none⟩ = some (.int .i64 on)) := Lib.hid fun w' hb =>
              (World.cell?_of_block (a := ⟨(ad.add (j * 3)).block, (ad.add (j * 3)).off + 2, none⟩) (hb.block _ (Nat.lt_of_lt_of_le hbk HJ7.out.bel.size) (fun e => by rcases e with e | e; have h1 : w.heap.size ≤ (ad.add (j * 3)).block := HJ7.out.up _ e; omega; have h1 : (ad.add (j * 3)).block = gb := e; have h2 := HJ7.out.lo; omega))).trans q2
            have HDZ : Hid (Row (w7.alloc (.cells #[.int .i64 0, .int .i64 0, .int .u32 0, .int .u32 0, .bool false, .slice none 0 0] 46)).drew w7.heap.size 46 [.int .i64 0, .int .i64 0, .int .u32 0, .int .u32 0, .bool false, .slice none 0 0]) := Lib.hid (Row.drew (Row.new w7 46 [.int .i64 0, .int .i64 0, .int .u32 0, .int .u32 0, .bool false, .slice none 0 0]))
            have HD0 : Hid (Below w7.heap.size w7 w7.drew) := Lib.hid (Below.refl _ _).drew
            have HD1 : Hid (Below w7.heap.size w7 (w7.alloc (.cells #[.int .i64 0, .int .i64 0, .int .u32 0, .int .u32 0, .bool false, .slice none 0 0] 46)).drew) := Lib.hid ((Below.refl _ _).alloc (Nat.le_refl _) _).drew
            have hfew := HJ7.out.few
            have hn01 := HJ7.out.n0
            have CW := Lib.hid (fun w' (hw' : Below w7.heap.size w7 w') => add_c lp mp bp (0 + 1) f B 1 1 gb n' on w' (HJ7.out.below hw').lk rfl rfl HF.out (HJ7.out.below hw').gr rfl hn01 HJ7.out.key HJ7.out.ap (by omega))
            obtain ⟨ft, hft⟩ : ∃ ft : Int, (if tooFar on n' then 18 else 0) = ft := ⟨_, rfl⟩
            have HFT := Lib.hid hft
            rw [hft] at CW
            unfold didV at CW
            clear hfew hft hbk
            go_upto_region 23 with fail
            go_cut [15, 16] (fun v13 v14 wx => ∃ z v, v13 = .pointer (some ⟨z, 0, none⟩) ∧ v14 = .int .i64 0 ∧ Row wx z 46 [.int .i64 ft, .int .i64 0, .int .u32 0, .int .u32 0, .bool false, v] ∧ AEnd w7 lp mp bp (0 + 1) gb f B n' on v wx)
            case first => as_aux_lemma =>
              go_region_held3 (fun w' => w'.cell? ⟨(ad.add (j * 3)).block, (ad.add (j * 3)).off + 2, none⟩ = some (.int .i64 on))
                ((refine HCB.out _ ?_; first
                  | with_reducible exact But.of_below (Below.refl _ _).drew _
                  | with_reducible exact But.of_below hX9 _
                  | with_reducible exact (But.of_below hX9 _).alloc _
                  | with_reducible exact hYB
                  | with_reducible exact hYB.alloc _
                  | with_reducible exact hYB.store6New (Nat.le_refl _) _ _ _ _ _ _
                  | with_reducible exact hYB.store6New hX9.size _ _ _ _ _ _
                  | with_reducible exact But.of_below ((Below.refl _ _).alloc (Nat.le_refl _) _).drew _))
                (first
                  | (go_at_call 9; refine (handle1_c _).mono ?_; rintro e w9 ⟨rfl, hb9⟩; have hX9 : Below w7.heap.size w7 w9 := (by first | (with_reducible exact HD0.out.trans (hb9.mono HD0.out.size)) | (with_reducible exact HD1.out.trans (hb9.mono HD1.out.size))); (try (have hrz := (by with_reducible exact HDZ.out.grown hb9 : Row w9 w7.heap.size 46 [.int .i64 0, .int .i64 0, .int .u32 0, .int .u32 0, .bool false, .slice none 0 0]))))
                  | (go_at_call 16; refine (CW.out _ (by (first | (with_reducible exact hX9) | (with_reducible exact hX9.alloc hX9.size _)))).mono ?_; rintro e w10 ⟨vA, vm, vq, rfl, hend⟩; have hYE : AEnd w7 lp mp bp (0 + 1) gb f B n' on (.slice vA vm vq) w10 := (by first | (with_reducible exact AEnd.pre hX9 HJ7.out.lk HJ7.out.gr.lt hend) | (with_reducible exact AEnd.pre (hX9.alloc hX9.size _) HJ7.out.lk HJ7.out.gr.lt hend)); have hYB := hYE.but; have hzb := hend.but; (try (have hrz2 := (by with_reducible exact hzb.row hrz (no_gb hrz (HJ7.out.below hX9)) : Row w10 w7.heap.size 46 [.int .i64 0, .int .i64 0, .int .u32 0, .int .u32 0, .bool false, .slice none 0 0]); obtain ⟨⟨t0, t1, t2, t3, t4, t5⟩, s0, s1, s2, s3, s4, s5⟩ := hrz2.at6)); (try (have hrz3 := (by with_reducible exact hzb.row (Row.new w9 46 [.int .i64 0, .int .i64 0, .int .u32 0, .int .u32 0, .bool false, .slice none 0 0]) (no_gb (Row.new w9 46 [.int .i64 0, .int .i64 0, .int .u32 0, .int .u32 0, .bool false, .slice none 0 0]) (HJ7.out.below (hX9.alloc hX9.size _))) : Row w10 w9.heap.size 46 [.int .i64 0, .int .i64 0, .int .u32 0, .int .u32 0, .bool false, .slice none 0 0]); obtain ⟨⟨t0, t1, t2, t3, t4, t5⟩, s0, s1, s2, s3, s4, s5⟩ := hrz3.at6))))
              all_goals (
                go_wp2
                go_meet
                first
                  | (with_reducible exact ⟨w10.heap.size, .slice vA vm vq, rfl, rfl, Row.new w10 46 [.int .i64 ft, .int .i64 0, .int .u32 0, .int .u32 0, .bool false, .slice vA vm vq], hYE.post HJ7.out.gr.lt ((Below.refl _ _).alloc (Nat.le_refl _) _)⟩)
                  | (with_reducible exact ⟨w7.heap.size, .slice vA vm vq, rfl, rfl, hrz2.store6 _ _ _ _ _ _, hYE.store6 HJ7.out.gr.lt (Nat.le_refl _) hrz2 _ _ _ _ _ _⟩)
                  | (with_reducible exact ⟨w9.heap.size, .slice vA vm vq, rfl, rfl, hrz3.store6 _ _ _ _ _ _, hYE.store6 HJ7.out.gr.lt hX9.size hrz3 _ _ _ _ _ _⟩))
            case rest => as_aux_lemma =>
              obtain ⟨z, v, rfl, rfl, hrow, hend⟩ := hcut
              have HROW := Lib.hid hrow
              have HEND := Lib.hid hend
              have q2 := HCB.out _ hend.but
              obtain ⟨⟨x0, _, _, _, _, x5⟩, _⟩ := hrow.at6
              clear hrow hend CW HDZ HD0 HD1 HCB q0 q1
              have hon : -9223372036854775808 ≤ on ∧ on ≤ 9223372036854775807 := by have := HOK.out.n; simp [Lit.wf, IntKind.min, IntKind.max, IntKind.signed, IntKind.bits] at this; omega
              by_cases hfar : tooFar on n'
              · obtain rfl : 18 = ft := by have := HFT.out; rw [if_pos hfar] at this; exact this
                obtain ⟨hv, hbl⟩ : v = .slice none 0 0 ∧ Below w7.heap.size w7 wc := by have := HEND.out; unfold AEnd at this; rw [if_pos hfar] at this; exact this
                subst hv
                have HJF : Hid (Join w wc lp mp bp (0 + 1) gb f B (.slice A7 L c7) n' (j + 1)) := Lib.hid (HJ7.out.below hbl).more
                clear HEND HFT hbl
                unfold tooFar at hfar
                by_cases h1 : on < -n'
                · have d3 : decide (on < -n') = true := decide_eq_true h1
                  go_wp2_with fail
                  go_meet
                  exact ⟨B, n', rfl, HJF.out⟩
                · have d3 : decide (on < -n') = false := decide_eq_false h1
                  have d4 : decide (2147483647 - n' < on) = true := decide_eq_true (by omega)
                  go_wp2_with fail
                  go_meet
                  exact ⟨B, n', rfl, HJF.out⟩
              · obtain rfl : 0 = ft := by have := HFT.out; rw [if_neg hfar] at this; exact this
                have hfar2 := hfar
                unfold tooFar at hfar2
                have d3 : decide (on < -n') = false := decide_eq_false (by omega)
                have d4 : decide (2147483647 - n' < on) = false := decide_eq_false (by omega)
                by_cases hz : n' + on = 0
                · have hend := HEND.out
                  unfold AEnd at hend
                  rw [if_neg hfar, if_neg (fun e => e hz)] at hend
                  obtain ⟨hlk, hgr, hown, hbt⟩ := hend
                  have HJF : Hid (Join w wc lp mp bp (0 + 1) gb f (B.from B.N.length) (.slice none 0 0) 0 (j + 1)) := Lib.hid (HJ7.out.join hlk hgr hbt).more
                  obtain ⟨Aw, cw, hvw, hwc⟩ := own_form hown
                  have hlw := own_move (w' := wc) HJ7.out.line (fun q hq => hbt.block q (HJ7.out.line.lt q hq).2 (fun e => by rcases e with e | e; exact HJ7.out.line_book q hq e; exact HJ7.out.line_gb q hq e))
                  obtain ⟨Al, cl, hvl, hlc2⟩ := own_form hlw
                  obtain ⟨rfl, rfl⟩ : A7 = Al ∧ c7 = cl := by injection hvl with e1 e2 e3; exact ⟨e1, e3⟩
                  rw [HL.out] at hvw
                  subst hvw
                  have HWC := Lib.hid hwc
                  have HLC2 := Lib.hid hlc2
                  have HR := HROW
                  have d5 : decide (0 < n' + on) = false := decide_eq_false (by omega)
                  have d6 : (n' + on == 0) = true := by simpa using hz
                  have d7 : IntKind.i64.wrap (n' + on) = 0 := by rw [hz]; rfl
                  clear HEND HFT hlk hgr hown hbt hwc hlw hvl hlc2 hfar
                  go_upto_region 31 with fail
                  go_wp2_with fail
                  go_loopw [18] (fun y wr => ∃ i d : Nat, i ≤ L ∧ y = .int .i64 i ∧ wr = wc.drewN d) (fun y _ => L - (intOf y).toNat)
                  case atStart => exact ⟨0, 0, by omega, rfl, rfl⟩
                  case round =>
                    obtain ⟨i, d, hi, rfl, hwr⟩ := hrel
                    have i0 : (0 : Int) ≤ (i : Int) := by omega
                    have HWN : Hid (∀ e, wr.drewN e = wc.drewN (d + e)) := Lib.hid fun e => by rw [hwr, World.drewN_drewN]
                    have x5 : wr.cell? ⟨z, 5, none⟩ = some (.slice Aw L cw) := by rw [hwr]; exact HR.out.cell 5
                    by_cases hil : i < L
                    · have d2 : decide ((i : Int) < (L : Int)) = true := decide_eq_true (by omega)
                      have i1 : (i : Int) < (L : Int) := by omega
                      obtain ⟨y, hy⟩ : ∃ y, B.N[i]? = some y := ⟨_, List.getElem?_eq_getElem (by rw [HL.out]; exact hil)⟩
                      obtain ⟨g1, hA1, y0, _⟩ := HLC2.out (i * 2) _ (hands_at hy).1
                      obtain ⟨g2, hA2, y1, _⟩ := HLC2.out (i * 2 + 1) _ (hands_at hy).2
                      have hgg : g2 = g1 := by rw [hA1] at hA2; injection hA2 with e; injection e with e; exact e.symm
                      subst hgg
                      obtain ⟨g3, hA3, w0, _⟩ := HWC.out (i * 8) _ (wakes_at hy).1
                      obtain ⟨g4, hA4, w1, _⟩ := HWC.out (i * 8 + 1) _ (wakes_at hy).2
                      have hgg : g4 = g3 := by rw [hA3] at hA4; injection hA4 with e; injection e with e; exact e.symm
                      subst hgg
                      subst hA1
                      subst hA3
                      have y0 : wr.cell? ⟨g2, i * 2, none⟩ = some (.int .u32 y.rc.hs) := by rw [hwr]; exact y0
                      have y1 : wr.cell? ⟨g2, i * 2 + 1, none⟩ = some (.int .u32 y.rc.hg) := by rw [hwr]; exact y1
                      have w0 : wr.cell? ⟨g4, i * 8, none⟩ = some (.int .u32 y.rc.hs) := by rw [hwr]; exact w0
                      have w1 : wr.cell? ⟨g4, i * 8 + 1, none⟩ = some (.int .u32 y.rc.hg) := by rw [hwr]; exact w1
                      have e1 := fun w => run_neq_handle y.rc.hs y.rc.hg y.rc.hs y.rc.hg w
                      rw [sameH_iff.2 ⟨rfl, rfl⟩] at e1
                      clear hy hA2 hA4 hwr
                      go_wp2_with fail
                      go_quiet (fail)
                      go_wp2_with fail
                      go_roundw
                      case rel => exact ⟨i + 1, _, by omega, by go_num, HWN.out _⟩
                      case measure => simp [intOf] <;> omega
                    · have d2 : decide ((i : Int) < (L : Int)) = false := decide_eq_false (by omega)
                      have HJG : Hid (Join w wr lp mp bp (0 + 1) gb f (B.from B.N.length) (.slice none 0 0) 0 (j + 1)) := Lib.hid (by rw [hwr]; exact HJF.out.below (below_drewN (Below.refl _ _) d))
                      clear HJF hwr HR
                      go_wp2_with fail
                      go_meet
                      exact ⟨_, 0, rfl, HJG.out⟩
                · have hend := HEND.out
                  unfold AEnd at hend
                  rw [if_neg hfar, if_pos hz] at hend
                  obtain ⟨hv, hgr, hbt⟩ := hend
                  subst hv
                  have HJF : Hid (Join w wc lp mp bp (0 + 1) gb f B (.slice A7 L c7) (n' + on) (j + 1)) := Lib.hid (HJ7.out.count hgr hbt (by omega)).more
                  have d5 : decide (0 < n' + on) = true := decide_eq_true (by omega)
                  have d6 : (n' + on == 0) = false := by simpa using hz
                  clear HEND HFT hgr hbt hz hfar
                  go_wp2_with fail
                  go_loopw [18] (fun y wr => y = .int .i64 0 ∧ wr = wc) (fun _ _ => 0)
                  case atStart => exact ⟨rfl, rfl⟩
                  case round =>
                    obtain ⟨rfl, rfl⟩ := hrel
                    go_wp2_with fail
                    go_meet
                    exact ⟨B, _, rfl, HJF.out⟩
        case rest =>
        obtain ⟨B2, n2, hxn, hj2⟩ := hcut
        subst hxn
        obtain ⟨A2, c2, hlv, _⟩ := own_form hj2.line
        have HJ2 := Lib.hid hj2
        obtain ⟨L2, hL2⟩ : ∃ L2, B2.N.length = L2 := ⟨_, rfl⟩
        have HL2 := Lib.hid hL2
        rw [hL2] at hlv
        subst hlv
        have CC := Lib.hid (fun w' (hw' : Below wc.heap.size wc w') => count_c bp B2 w' (HJ2.out.below hw').lk.book)
        rw [hL2] at CC
        clear hj2 hL2 q0 q1 q2 HG7 HJ7
        go_wp2_with (first
          | (go_at_call 9; refine (handle1_c _).mono ?_; rintro e w8 ⟨rfl, hb8⟩; have HJ8 := Lib.hid (HJ2.out.below hb8); have HB8 := Lib.hid hb8; clear hb8)
          | (go_at_call 17; refine (counter_c lp mp bp (0 + 1) f B2 1 1 gb n2 _ HJ8.out.lk rfl rfl HF.out HJ8.out.gr).mono ?_; rintro e w9 ⟨rfl, hb9⟩; have HJ9 := Lib.hid (HJ8.out.below hb9); have HB9 := Lib.hid (HB8.out.trans (hb9.mono HB8.out.size)); clear hb9)
          | (go_at_call 18; refine (CC.out _ HB9.out).mono ?_; rintro e w10 ⟨rfl, rfl⟩))
        go_roundw
        case rel => exact ⟨j + 1, B2, n2, by omega, by go_num, rfl, HJ9.out⟩
        case measure => simp [intOf] <;> omega
      · have d0 : decide ((j : Int) < (n : Int)) = true := decide_eq_true (by omega)
        have d1 : decide ((j : Int) < 500) = false := decide_eq_false (by omega)
        have HE := Lib.hid HJ.out.bel
        clear HJ
        go_wp2_with fail
        go_ret
        exact ⟨rfl, HE.out⟩
    · have d0 : decide ((j : Int) < (n : Int)) = false := decide_eq_false (by omega)
      have HE := Lib.hid HJ.out.bel
      clear HJ
      go_wp2_with fail
      go_ret
      exact ⟨rfl, HE.out⟩
end Go.Proofs.Ytkdiibgjkipdnaa
