/-
  LocksTurn: the walk.
-/
import Derived.Test.YtkdiibgjkipdnaaLkZ0
import Derived.Deep.CutBlock
import Derived.Deep.DeepCutAuto
import Derived.Deep.RegionHeld3
namespace Go.Proofs.Ytkdiibgjkipdnaa
open Go.RowKit Go.Maps
set_option linter.unusedSimpArgs false
set_option linter.unusedVariables false

set_option maxHeartbeats 16000000 in
set_option maxRecDepth 100000 in
theorem turn_walk (A : Option Addr) (n c : Nat) (os : List Stp) (w : World) (hx : Steps w A n os) :
    Calls Try.prog 3 #[.slice A n c] w fun e w' => e = .returned (.bool true) ∧ Below w.heap.size w w' := by
  have HX := Lib.hid hx
  clear hx
  go_enter Try.func3, Try.ntmps3
  go_wp2_with fail
  refine (awake16_c _).mono ?_
  rintro e w1 ⟨rfl, hb1⟩
  have HB1 := Lib.hid hb1
  clear hb1
  go_wp2_with fail
  refine (new_c _).mono ?_
  rintro e w2 ⟨rfl, hbk, hb2⟩
  have HBK := Lib.hid hbk
  have HB2 : Hid (Below w.heap.size w w2) := Lib.hid (HB1.out.trans (hb2.mono HB1.out.size))
  have hlo : w.heap.size ≤ w1.heap.size := HB1.out.size
  clear hbk hb2 HB1
  go_wp2_with fail
  refine (locksNew_c _ _ _ HBK.out).mono ?_
  rintro e w3 ⟨rfl, hlk, hb3⟩
  have e0 := fun w => eql_locks_nil ⟨w2.heap.size + 1, 0, none⟩ w
  have e1 := fun w => eql_book_nil ⟨w1.heap.size + 1, 0, none⟩ w
  have HLK := Lib.hid hlk
  have HB3 : Hid (Below w.heap.size w w3) := Lib.hid (HB2.out.trans (hb3.mono HB2.out.size))
  clear hlk hb3
  go_upto_block 0 with fail
  have HM0 : Hid (Made w (w3.alloc (.cells #[.slice none 0 0, .slice none 0 0, .slice none 0 0] 31)) (w2.heap.size + 1) w2.heap.size (w1.heap.size + 1) w3.heap.size 0 (fun _ _ => .nilIface) (fun _ => 0) (newBk w1.heap.size)) := Lib.hid (by
    have hsz := HB2.out.size
    have hsz3 := HB3.out.size
    have hA := (Below.refl w3.heap.size w3).alloc (Nat.le_refl _) (.cells #[.slice none 0 0, .slice none 0 0, .slice none 0 0] 31)
    refine ⟨HLK.out.below hA, (fun k hk => by omega), (fun k hk => by omega), (fun _ _ _ => rfl), (fun k _ hk => by omega), (fun k hk => by omega), hsz, Row.new w3 31 [.slice none 0 0, .slice none 0 0, .slice none 0 0], hsz3, rfl, ⟨rfl, rfl, rfl⟩, ?_, HB3.out.trans (hA.mono hsz3)⟩
    rintro k (e | e | e | e | ⟨x, hx, _⟩)
    · omega
    · have : k = w1.heap.size := e
      omega
    · cases e
    · cases e
    · cases hx)
  obtain ⟨lp, hlp⟩ : ∃ lp, w2.heap.size + 1 = lp := ⟨_, rfl⟩
  obtain ⟨mp, hmp⟩ : ∃ mp, w2.heap.size = mp := ⟨_, rfl⟩
  obtain ⟨bp, hbp⟩ : ∃ bp, w1.heap.size + 1 = bp := ⟨_, rfl⟩
  rw [hlp, hmp, hbp] at HM0
  rw [hlp, hbp]
  clear HB2 HB3 HLK HBK hlo e0 e1 hlp hmp hbp
  generalize w3.alloc (.cells #[.slice none 0 0, .slice none 0 0, .slice none 0 0] 31) = w4 at *
  generalize w3.heap.size = lb at *
  generalize newBk w1.heap.size = B0 at *
  go_wp2_with fail
  go_loopw [8] (fun x wr => ∃ (i : Nat) (f : Int → Int → Value) (mb : Nat → Nat), i ≤ 3 ∧ x = .int .i64 i ∧ Made w wr lp mp bp lb i f mb B0) (fun x _ => 3 - (intOf x).toNat)
  case atStart => exact ⟨0, _, _, by omega, rfl, HM0.out⟩
  case round =>
    obtain ⟨i, f, mb, hi, rfl, hm⟩ := hrel
    have HM := Lib.hid hm
    have i0 : (0 : Int) ≤ (i : Int) := by omega
    clear hm HM0
    by_cases hi3 : i < 3
    · have d0 : decide ((i : Int) < 3) = true := decide_eq_true (by omega)
      have CH := Lib.hid (fun w => handleH_c i w hi3)
      have hw3 : (Lit.int .u32 ((i : Int) + 1)).wf = true := by
        have := wf_nat32 (n := i + 1) (by omega)
        rw [Int.natCast_add] at this
        exact this
      have HW3 := Lib.hid hw3
      have hz0 : sameH ((i : Int) + 1) 1 0 0 = false := by
        rw [← Bool.not_eq_true]; intro e; have := (sameH_iff.1 e).2; omega
      have HZ0 := Lib.hid hz0
      clear hw3 hz0
      go_wp2_with (first
        | (go_at_call 9; refine (CH.out _).mono ?_; rintro e w5 ⟨rfl, hb5⟩; have HM5 := Lib.hid (HM.out.below hb5); clear hb5)
        | (go_at_call 8; refine (makeMutex_c lp mp bp i f B0 ((i : Int) + 1) 1 _ HM5.out.lk HW3.out rfl HZ0.out (HM5.out.fn i (Nat.le_refl _) hi3) (by omega)).mono ?_; rintro e w6 ⟨rfl, b, hb, hr, hl, hbt⟩; have HM6 := Lib.hid (HM5.out.next hi3 hb hr hl hbt); clear hb hr hl hbt))
      go_roundw
      case rel => exact ⟨i + 1, _, _, by omega, by go_num, HM6.out⟩
      case measure => simp [intOf] <;> omega
    · have d0 : decide ((i : Int) < 3) = false := decide_eq_false (by omega)
      obtain rfl : i = 3 := by omega
      have HT0 := Lib.hid HM.out.turn
      have HFM := Lib.hid HM.out.fm
      clear HM i0
      go_wp2_with fail
      go_loopw [9] (fun x wr => ∃ (j : Nat) (B : Bk) (l : Nat → List Nat) (v : Nat → Value), j ≤ 500 ∧ x = .int .i64 j ∧ Turn w wr lp mp bp 3 mb f B l j ∧ Lines w wr lb l v) (fun x _ => 500 - (intOf x).toNat)
      case atStart => exact ⟨0, _, _, _, by omega, rfl, HT0.out⟩
      case round =>
        obtain ⟨j, B, l, v, hj, rfl, hto, hlo⟩ := hrel
        have HT := Lib.hid hto
        have HL := Lib.hid hlo
        have j0 : (0 : Int) ≤ (j : Int) := by omega
        clear hto hlo HT0
        by_cases hjn : j < n
        · by_cases hj5 : j < 500
          · have d0 : decide ((j : Int) < (n : Int)) = true := decide_eq_true (by omega)
            have d1 : decide ((j : Int) < 500) = true := decide_eq_true (by omega)
            obtain ⟨o, ho⟩ : ∃ o, os[j]? = some o := ⟨_, List.getElem?_eq_getElem (by rw [HX.out.len]; exact hjn)⟩
            obtain ⟨ad, hA, hcell⟩ := HX.out.at_ j o ho
            have hok := HX.out.ok o (List.mem_of_getElem? ho)
            subst hA
            obtain ⟨od, og, oh⟩ := o
            have HCL : Hid (∀ w', Below w.heap.size w w' → w'.cell? (ad.add (j * 3)) = some (.int .i64 od) ∧ w'.cell? ⟨(ad.add (j * 3)).block, (ad.add (j * 3)).off + 1, none⟩ = some (.int .i64 og) ∧ w'.cell? ⟨(ad.add (j * 3)).block, (ad.add (j * 3)).off + 2, none⟩ = some (.int .i64 oh)) := Lib.hid fun w' hb => by
              have q0 := hcell 0 _ rfl
              have q1 := hcell 1 _ rfl
              have q2 := hcell 2 _ rfl
              rw [Nat.add_zero] at q0
              rw [← addr_add] at q1 q2
              change w.cell? ⟨(ad.add (j * 3)).block, (ad.add (j * 3)).off + 1, none⟩ = _ at q1
              change w.cell? ⟨(ad.add (j * 3)).block, (ad.add (j * 3)).off + 2, none⟩ = _ at q2
              exact ⟨(hb.cell (cell_lt q0)).trans q0, (hb.cell (cell_lt q1)).trans q1, (hb.cell (cell_lt q2)).trans q2⟩
            have HOK := Lib.hid hok
            obtain ⟨q0, q1, q2⟩ := HCL.out wr HT.out.bel
            clear hcell hok ho
            have hk6 : pk og 6 < 6 := pk_lt (by omega)
            have hh3 : pk oh 3 < 3 := pk_lt (by omega)
            have CP := Lib.hid (fun w => pick6_c og w HOK.out.g)
            have CP3 := Lib.hid (fun w => pick3_c oh w HOK.out.h)
            obtain ⟨k, hk⟩ : ∃ k, pk og 6 = k := ⟨_, rfl⟩
            obtain ⟨h, hh⟩ : ∃ h, pk oh 3 = h := ⟨_, rfl⟩
            rw [hk] at hk6 CP
            rw [hh] at hh3 CP3
            clear hk hh
            have wk : IntKind.i64.wrap (11 + (k : Int)) = 11 + (k : Int) := by simp [IntKind.wrap, IntKind.bits, IntKind.signed, Int.bmod]; omega
            have CG := Lib.hid (fun w => handleG_c k w hk6)
            go_upto_region 17 with (first
              | (go_at_call 10; first | ((with_reducible refine (CP.out _).mono ?_); rintro e w6 ⟨rfl, rfl⟩) | ((with_reducible refine (CP3.out _).mono ?_); rintro e w6 ⟨rfl, rfl⟩))
              | (go_at_call 9; refine (CG.out _).mono ?_; rintro e w6 ⟨rfl, hb6⟩))
            have hA7 : Below w6.heap.size w6 (w6.alloc (.cells #[.int .u32 (11 + (k : Int)), .int .u32 1] 35)) := (Below.refl _ _).alloc (Nat.le_refl _) _
            have HT7 := Lib.hid ((HT.out.below hb6).below hA7)
            have HL7 := Lib.hid ((HL.out.below hb6).below hA7)
            have HG7 := Lib.hid (Row.new w6 35 [.int .u32 (11 + (k : Int)), .int .u32 1])
            change Hid (Row (w6.alloc (.cells #[.int .u32 (11 + (k : Int)), .int .u32 1] 35)) _ _ _) at HG7
            clear hb6 hA7 HT HL q0 q1 q2
            generalize w6.alloc (.cells #[.int .u32 (11 + (k : Int)), .int .u32 1] 35) = w7 at *
            generalize w6.heap.size = gq at *
            go_wp2_with fail
            go_loopw [12, 13] (fun x y wr => ∃ i d : Nat, i ≤ 3 ∧ y = .int .i64 i ∧ x = .bool (waitsIn l k i) ∧ wr = w7.drewN d) (fun _ y _ => 3 - (intOf y).toNat)
            case atStart => exact ⟨0, 0, by omega, rfl, rfl, rfl⟩
            case round =>
              obtain ⟨i, d, hi, rfl, rfl, hwr⟩ := hrel
              have i0 : (0 : Int) ≤ (i : Int) := by omega
              by_cases hi3 : i < 3
              · have d2 : decide ((i : Int) < 3) = true := decide_eq_true (by omega)
                obtain ⟨Ai, ci, hvi, hci⟩ := HL7.out.form hi3
                have hcv := HL7.out.cell hi3
                rw [hvi] at hcv
                obtain ⟨Li, hLi⟩ : ∃ Li, (l i).length = Li := ⟨_, rfl⟩
                have HLI := Lib.hid hLi
                have hl5 : Li ≤ 500 := by rw [← hLi]; exact Nat.le_trans (HT7.out.len i hi3) (by omega)
                rw [hLi] at hcv
                have HCI := Lib.hid hci
                have HWI := Lib.hid (waitsIn_step l k i)
                obtain ⟨b0, hb0⟩ : ∃ b0, waitsIn l k i = b0 := ⟨_, rfl⟩
                rw [hb0]
                rw [hb0] at HWI
                have HWR := Lib.hid hwr
                clear hvi hLi hci hb0 hwr
                go_wp2_with fail
                go_loopw [12, 14] (fun x y wr => ∃ q e : Nat, 1 ≤ q ∧ (q = 1 ∨ q ≤ Li) ∧ y = .int .i64 q ∧ x = .bool (b0 || ((l i).take q).tail.any fun z => z == k) ∧ wr = w7.drewN e) (fun _ y _ => Li + 1 - (intOf y).toNat)
                case atStart =>
                  refine ⟨1, d, by omega, .inl rfl, rfl, ?_, HWR.out⟩
                  cases l i with
                  | nil => simp
                  | cons a t => simp
                case round =>
                  obtain ⟨q, e, hq1, hq, rfl, rfl, hwq⟩ := hrel
                  have q0 : (0 : Int) ≤ (q : Int) := by omega
                  have cv : wr.cell? ⟨lb, i, none⟩ = some (.slice Ai Li ci) := by rw [hwq]; exact hcv
                  have HWN : Hid (∀ z, wr.drewN z = w7.drewN (e + z)) := Lib.hid fun z => by rw [hwq, World.drewN_drewN]
                  by_cases hql : q < Li
                  · have d3 : decide ((q : Int) < (Li : Int)) = true := decide_eq_true (by omega)
                    have q1 : (q : Int) < (Li : Int) := by omega
                    obtain ⟨y, hy⟩ : ∃ y, (l i)[q]? = some y := ⟨_, List.getElem?_eq_getElem (by rw [HLI.out]; exact hql)⟩
                    obtain ⟨g2, off, hA1, y0, y1⟩ := HCI.out q y hy
                    subst hA1
                    have y0 : wr.cell? ⟨g2, off + q * 2, none⟩ = some (.int .u32 (11 + (y : Int))) := by rw [hwq]; exact y0
                    have y1 : wr.cell? ⟨g2, off + q * 2 + 1, none⟩ = some (.int .u32 1) := by rw [hwq]; exact y1
                    have g0 : wr.cell? ⟨gq, 0, none⟩ = some (.int .u32 (11 + (k : Int))) := by rw [hwq]; exact HG7.out.cell 0
                    have g1 : wr.cell? ⟨gq, 1, none⟩ = some (.int .u32 1) := by rw [hwq]; exact HG7.out.cell 1
                    have e1 := fun w => run_eql_handle (11 + (y : Int)) 1 (11 + (k : Int)) 1 w
                    have hsy : sameH (11 + (y : Int)) 1 (11 + (k : Int)) 1 = (y == k) := by
                      rw [Bool.eq_iff_iff, sameH_iff]; simp; omega
                    rw [hsy] at e1
                    have HAN : Hid ((b0 || ((l i).take (q + 1)).tail.any fun z => z == k) = ((b0 || ((l i).take q).tail.any fun z => z == k) || (y == k))) := Lib.hid (by
                      rw [take_next hy]
                      have : ((l i).take q) ≠ [] := by
                        intro e
                        have := congrArg List.length e
                        rw [List.length_take, HLI.out] at this
                        simp at this; omega
                      obtain ⟨z, t, hz⟩ : ∃ z t, (l i).take q = z :: t := by
                        cases h : (l i).take q with
                        | nil => exact absurd h this
                        | cons z t => exact ⟨z, t, rfl⟩
                      rw [hz]
                      simp [List.any_append, Bool.or_assoc])
                    obtain ⟨b1, hb1⟩ : ∃ b1, (b0 || ((l i).take q).tail.any fun z => z == k) = b1 := ⟨_, rfl⟩
                    obtain ⟨b2, hb2⟩ : ∃ b2, (y == k) = b2 := ⟨_, rfl⟩
                    rw [hb1, hb2] at HAN
                    rw [hb1]
                    rw [hb2] at e1
                    clear hb1 hb2 hy hwq hsy
                    cases b1 with
                    | true =>
                      go_wp2_with fail
                      go_quiet (fail)
                      go_wp2_with fail
                      go_roundw
                      case rel => exact ⟨q + 1, _, by omega, by omega, by go_num, by rw [HAN.out]; rfl, HWN.out _⟩
                      case measure => simp [intOf] <;> omega
                    | false =>
                      go_wp2_with fail
                      go_quiet (fail)
                      go_wp2_with fail
                      go_roundw
                      case rel => exact ⟨q + 1, _, by omega, by omega, by go_num, by rw [HAN.out]; rfl, HWN.out _⟩
                      case measure => simp [intOf] <;> omega
                  · have d3 : decide ((q : Int) < (Li : Int)) = false := decide_eq_false (by omega)
                    have HTL : Hid ((b0 || ((l i).take q).tail.any fun z => z == k) = waitsIn l k (i + 1)) := Lib.hid (by rw [HWI.out, List.take_of_length_le (by rw [HLI.out]; omega)])
                    rw [HTL.out]
                    have HWQ := Lib.hid hwq
                    clear hwq
                    go_wp2_with fail
                    go_roundw
                    case rel => exact ⟨i + 1, e, by omega, by go_num, rfl, HWQ.out⟩
                    case measure => simp [intOf] <;> omega
              · have d2 : decide ((i : Int) < 3) = false := decide_eq_false (by omega)
                obtain rfl : i = 3 := by omega
                have HT8 : Hid (Turn w wr lp mp bp 3 mb f B l j) := Lib.hid (by rw [hwr]; exact HT7.out.below (below_drewN (Below.refl _ _) d))
                have HL8 : Hid (Lines w wr lb l v) := Lib.hid (by rw [hwr]; exact HL7.out.below (below_drewN (Below.refl _ _) d))
                have HG8 : Hid (Row wr gq 35 [.int .u32 (11 + (k : Int)), .int .u32 1]) := Lib.hid (by rw [hwr]; exact HG7.out.drewN d)
                have HANY := Lib.hid (HT8.out.any k)
                obtain ⟨b1, hb1⟩ : ∃ b1, waitsIn l k 3 = b1 := ⟨_, rfl⟩
                rw [hb1]
                rw [hb1] at HANY
                clear hb1 hwr HT7 HL7 HG7
                obtain ⟨q0, q1, q2⟩ := HCL.out wr HT8.out.bel
                have hwf : (Lit.int .u32 (11 + (k : Int))).wf = true := by
                  have := wf_nat32 (n := 11 + k) (by omega)
                  rw [Int.natCast_add] at this
                  exact this
                have hw3 : (Lit.int .u32 ((h : Int) + 1)).wf = true := by
                  have := wf_nat32 (n := h + 1) (by omega)
                  rw [Int.natCast_add] at this
                  exact this
                have HWF := Lib.hid hwf
                have HW3 := Lib.hid hw3
                have HZG : Hid (sameH (11 + (k : Int)) 1 0 0 = false) := Lib.hid (by rw [← Bool.not_eq_true]; intro e; have := (sameH_iff.1 e).2; omega)
                have HZ3 : Hid (sameH ((h : Int) + 1) 1 0 0 = false) := Lib.hid (by rw [← Bool.not_eq_true]; intro e; have := (sameH_iff.1 e).2; omega)
                have CH := Lib.hid (fun w => handleH_c h w hh3)
                have HFH := Lib.hid (HFM.out h hh3)
                obtain ⟨Ah, ch, hvh, hch⟩ := HL8.out.form hh3
                obtain ⟨Lh, hLh⟩ : ∃ Lh, (l h).length = Lh := ⟨_, rfl⟩
                have HLH := Lib.hid hLh
                have hl5 : Lh ≤ 500 := by rw [← hLh]; exact Nat.le_trans (HT8.out.len h hh3) (by omega)
                rw [hLh] at hvh
                have HVH := Lib.hid hvh
                have HCHH := Lib.hid hch
                have cv := HL8.out.cell hh3
                rw [hvh] at cv
                have hf3 := HL8.out.frozen h
                have h0 : (0 : Int) ≤ (h : Int) := by omega
                have wh : IntKind.i64.wrap ((h : Int) + 1) = (h : Int) + 1 := by simp [IntKind.wrap, IntKind.bits, IntKind.signed, Int.bmod]; omega
                have h3i : (h : Int) < 3 := by omega
                clear hwf hw3 hvh hLh hch
                go_upto_if 106 with fail
                obtain ⟨ev, hevb⟩ : ∃ ev, (od.tmod 2 == 0) = ev := ⟨_, rfl⟩
                rw [hevb]
                clear hevb
                by_cases hA : ev = true ∧ b1 = true
                · obtain ⟨rfl, rfl⟩ := hA
                  have g0 := HG8.out.cell 0
                  have g1 := HG8.out.cell 1
                  dsimp only [List.getElem?_cons_zero, List.getElem?_cons_succ] at g0 g1
                  have hgn : ¬ (B.own bp gq ∨ gq = mb h) := by
                    rintro (e | e)
                    · exact HT8.out.lk.book.mem.not_own HG8.out (by decide) e
                    · exact HG8.out.ne (HT8.out.gr h hh3) (by decide) e
                  have HCQ : Hid (∀ w', But (fun q => B.own bp q ∨ q = mb h) wr w' → w'.cell? ⟨gq, 0, none⟩ = some (.int .u32 (11 + (k : Int))) ∧ w'.cell? ⟨gq, 1, none⟩ = some (.int .u32 1)) := Lib.hid fun w' hb => ⟨(hb.row HG8.out hgn).cell 0, (hb.row HG8.out hgn).cell 1⟩
                  have HDZ : Hid (Row (wr.alloc (.cells #[.int .i64 0, .int .i64 0, .int .u32 0, .int .u32 0, .bool false, .slice none 0 0] 46)).drew wr.heap.size 46 [.int .i64 0, .int .i64 0, .int .u32 0, .int .u32 0, .bool false, .slice none 0 0]) := Lib.hid (Row.drew (Row.new wr 46 [.int .i64 0, .int .i64 0, .int .u32 0, .int .u32 0, .bool false, .slice none 0 0]))
                  have HD0 : Hid (Below wr.heap.size wr wr.drew) := Lib.hid (Below.refl _ _).drew
                  have HD1 : Hid (Below wr.heap.size wr (wr.alloc (.cells #[.int .i64 0, .int .i64 0, .int .u32 0, .int .u32 0, .bool false, .slice none 0 0] 46)).drew) := Lib.hid ((Below.refl _ _).alloc (Nat.le_refl _) _).drew
                  have hfew := HT8.out.few
                  have CW := Lib.hid (fun w' (hw' : Below wr.heap.size wr w') => lock_c lp mp bp 3 f B ((h : Int) + 1) 1 (11 + (k : Int)) 1 (mb h) (holdA (l h)) (holdG (l h)) true w' (HT8.out.below hw').lk HW3.out rfl HWF.out rfl HFH.out ((HT8.out.below hw').gr h hh3) HZG.out HZ3.out HT8.out.ser HANY.out (by omega) (by omega) (by omega) (by omega))
                  obtain ⟨ft, hft⟩ : ∃ ft : Int, (if true = false ∧ sameH (holdA (l h)) (holdG (l h)) 0 0 = false then 1 else 0) = ft := ⟨_, rfl⟩
                  have HFT := Lib.hid hft
                  rw [hft] at CW
                  obtain ⟨er, her⟩ : ∃ er : Int, (if true then 163 else 0) = er := ⟨_, rfl⟩
                  have HER := Lib.hid her
                  rw [her] at CW
                  clear her
                  have HGLT := Lib.hid (HT8.out.gr h hh3).lt
                  unfold didV at CW
                  clear hfew hft hgn
                  go_upto_region 26 with fail
                  go_cut [15, 16] (fun v13 v14 wx => ∃ z, v13 = .pointer (some ⟨z, 0, none⟩) ∧ v14 = .int .i64 er ∧ Row wx z 46 [.int .i64 ft, .int .i64 0, .int .u32 0, .int .u32 0, .bool false, .slice none 0 0] ∧ LkEnd wr bp (mb h) B ⟨(h : Int) + 1, 1, 3⟩ (holdA (l h)) (holdG (l h)) (11 + (k : Int)) 1 true wx)
                  case first => as_aux_lemma =>
                    go_region_held3 (fun w' => w'.cell? ⟨gq, 0, none⟩ = some (.int .u32 (11 + (k : Int))) ∧ w'.cell? ⟨gq, 1, none⟩ = some (.int .u32 1))
                      ((refine HCQ.out _ ?_; first
                        | with_reducible exact But.of_below (Below.refl _ _).drew _
                        | with_reducible exact But.of_below hX9 _
                        | with_reducible exact (But.of_below hX9 _).alloc _
                        | with_reducible exact hYB
                        | with_reducible exact hYB.alloc _
                        | with_reducible exact hYB.store6New (Nat.le_refl _) _ _ _ _ _ _
                        | with_reducible exact hYB.store6New hX9.size _ _ _ _ _ _
                        | with_reducible exact But.of_below ((Below.refl _ _).alloc (Nat.le_refl _) _).drew _))
                      (first
                        | (go_at_call 9; refine (CH.out _).mono ?_; rintro e w9 ⟨rfl, hb9⟩; have hX9 : Below wr.heap.size wr w9 := (by first | (with_reducible exact HD0.out.trans (hb9.mono HD0.out.size)) | (with_reducible exact HD1.out.trans (hb9.mono HD1.out.size))); (try (have hrz := (by with_reducible exact HDZ.out.grown hb9 : Row w9 wr.heap.size 46 [.int .i64 0, .int .i64 0, .int .u32 0, .int .u32 0, .bool false, .slice none 0 0]))))
                        | (go_at_call 11; refine (CW.out _ (by (first | (with_reducible exact hX9) | (with_reducible exact hX9.alloc hX9.size _)))).mono ?_; rintro e w10 ⟨rfl, hend⟩; have hYE : LkEnd wr bp (mb h) B ⟨(h : Int) + 1, 1, 3⟩ (holdA (l h)) (holdG (l h)) (11 + (k : Int)) 1 true w10 := (by first | (with_reducible exact LkEnd.pre hX9 HT8.out.lk.book hend) | (with_reducible exact LkEnd.pre (hX9.alloc hX9.size _) HT8.out.lk.book hend)); have hYB := hYE.but; have hzb := hend.but; (try (have hrz2 := (by with_reducible exact hzb.row hrz (no_mb hrz (HT8.out.below hX9) hh3) : Row w10 wr.heap.size 46 [.int .i64 0, .int .i64 0, .int .u32 0, .int .u32 0, .bool false, .slice none 0 0]); obtain ⟨⟨t0, t1, t2, t3, t4, t5⟩, s0, s1, s2, s3, s4, s5⟩ := hrz2.at6)); (try (have hrz3 := (by with_reducible exact hzb.row (Row.new w9 46 [.int .i64 0, .int .i64 0, .int .u32 0, .int .u32 0, .bool false, .slice none 0 0]) (no_mb (Row.new w9 46 [.int .i64 0, .int .i64 0, .int .u32 0, .int .u32 0, .bool false, .slice none 0 0]) (HT8.out.below (hX9.alloc hX9.size _)) hh3) : Row w10 w9.heap.size 46 [.int .i64 0, .int .i64 0, .int .u32 0, .int .u32 0, .bool false, .slice none 0 0]); obtain ⟨⟨t0, t1, t2, t3, t4, t5⟩, s0, s1, s2, s3, s4, s5⟩ := hrz3.at6))))
                    all_goals (
                      go_wp2
                      go_meet
                      first
                        | (with_reducible exact ⟨w10.heap.size, rfl, rfl, Row.new w10 46 [.int .i64 ft, .int .i64 0, .int .u32 0, .int .u32 0, .bool false, .slice none 0 0], hYE.post ((Below.refl _ _).alloc (Nat.le_refl _) _)⟩)
                        | (with_reducible exact ⟨wr.heap.size, rfl, rfl, hrz2.store6 _ _ _ _ _ _, hYE.store6 HGLT.out (Nat.le_refl _) hrz2 _ _ _ _ _ _⟩)
                        | (with_reducible exact ⟨w9.heap.size, rfl, rfl, hrz3.store6 _ _ _ _ _ _, hYE.store6 HGLT.out hX9.size hrz3 _ _ _ _ _ _⟩))
                  case rest => as_aux_lemma =>
                    obtain ⟨z, rfl, rfl, hrow, hend⟩ := hcut
                    have hbl : Below wr.heap.size wr wc := by have := hend; unfold LkEnd at this; rw [if_pos rfl] at this; exact this
                    have HTF := Lib.hid (HT8.out.below hbl).more
                    have HLF := Lib.hid (HL8.out.below hbl)
                    obtain rfl : 163 = er := by have := HER.out; simpa using this
                    clear hrow hend hbl CW HDZ HD0 HD1 HCQ g0 g1 q0 q1 q2 cv HT8 HL8 HER HFT
                    go_wp2_with fail
                    go_roundw
                    case rel => exact ⟨j + 1, B, l, v, by omega, by go_num, HTF.out, HLF.out⟩
                    case measure => simp [intOf] <;> omega

                · go_cut [10] (fun v10 wx => ∃ (B2 : Bk) (l2 : Nat → List Nat) (v2 : Nat → Value), v10 = .int .i64 h ∧ Turn w wx lp mp bp 3 mb f B2 l2 (j + 1) ∧ Lines w wx lb l2 v2)
                  case first =>
                    cases ev with
                    | true =>
                      obtain rfl : b1 = false := by cases b1 with | false => rfl | true => exact absurd ⟨rfl, rfl⟩ hA
                      clear hA
                      have g0 := HG8.out.cell 0
                      have g1 := HG8.out.cell 1
                      dsimp only [List.getElem?_cons_zero, List.getElem?_cons_succ] at g0 g1
                      have hgn : ¬ (B.own bp gq ∨ gq = mb h) := by
                        rintro (e | e)
                        · exact HT8.out.lk.book.mem.not_own HG8.out (by decide) e
                        · exact HG8.out.ne (HT8.out.gr h hh3) (by decide) e
                      have HCQ : Hid (∀ w', But (fun q => B.own bp q ∨ q = mb h) wr w' → w'.cell? ⟨gq, 0, none⟩ = some (.int .u32 (11 + (k : Int))) ∧ w'.cell? ⟨gq, 1, none⟩ = some (.int .u32 1)) := Lib.hid fun w' hb => ⟨(hb.row HG8.out hgn).cell 0, (hb.row HG8.out hgn).cell 1⟩
                      have HDZ : Hid (Row (wr.alloc (.cells #[.int .i64 0, .int .i64 0, .int .u32 0, .int .u32 0, .bool false, .slice none 0 0] 46)).drew wr.heap.size 46 [.int .i64 0, .int .i64 0, .int .u32 0, .int .u32 0, .bool false, .slice none 0 0]) := Lib.hid (Row.drew (Row.new wr 46 [.int .i64 0, .int .i64 0, .int .u32 0, .int .u32 0, .bool false, .slice none 0 0]))
                      have HD0 : Hid (Below wr.heap.size wr wr.drew) := Lib.hid (Below.refl _ _).drew
                      have HD1 : Hid (Below wr.heap.size wr (wr.alloc (.cells #[.int .i64 0, .int .i64 0, .int .u32 0, .int .u32 0, .bool false, .slice none 0 0] 46)).drew) := Lib.hid ((Below.refl _ _).alloc (Nat.le_refl _) _).drew
                      have hfew := HT8.out.few
                      have CW := Lib.hid (fun w' (hw' : Below wr.heap.size wr w') => lock_c lp mp bp 3 f B ((h : Int) + 1) 1 (11 + (k : Int)) 1 (mb h) (holdA (l h)) (holdG (l h)) false w' (HT8.out.below hw').lk HW3.out rfl HWF.out rfl HFH.out ((HT8.out.below hw').gr h hh3) HZG.out HZ3.out HT8.out.ser HANY.out (by omega) (by omega) (by omega) (by omega))
                      obtain ⟨ft, hft⟩ : ∃ ft : Int, (if false = false ∧ sameH (holdA (l h)) (holdG (l h)) 0 0 = false then 1 else 0) = ft := ⟨_, rfl⟩
                      have HFT := Lib.hid hft
                      rw [hft] at CW
                      obtain ⟨er, her⟩ : ∃ er : Int, (if false then 163 else 0) = er := ⟨_, rfl⟩
                      have HER := Lib.hid her
                      rw [her] at CW
                      clear her
                      have HGLT := Lib.hid (HT8.out.gr h hh3).lt
                      unfold didV at CW
                      clear hfew hft hgn
                      go_upto_region 26 with fail
                      go_cut [15, 16] (fun v13 v14 wx => ∃ z, v13 = .pointer (some ⟨z, 0, none⟩) ∧ v14 = .int .i64 er ∧ Row wx z 46 [.int .i64 ft, .int .i64 0, .int .u32 0, .int .u32 0, .bool false, .slice none 0 0] ∧ LkEnd wr bp (mb h) B ⟨(h : Int) + 1, 1, 3⟩ (holdA (l h)) (holdG (l h)) (11 + (k : Int)) 1 false wx)
                      case first => as_aux_lemma =>
                        go_region_held3 (fun w' => w'.cell? ⟨gq, 0, none⟩ = some (.int .u32 (11 + (k : Int))) ∧ w'.cell? ⟨gq, 1, none⟩ = some (.int .u32 1))
                          ((refine HCQ.out _ ?_; first
                            | with_reducible exact But.of_below (Below.refl _ _).drew _
                            | with_reducible exact But.of_below hX9 _
                            | with_reducible exact (But.of_below hX9 _).alloc _
                            | with_reducible exact hYB
                            | with_reducible exact hYB.alloc _
                            | with_reducible exact hYB.store6New (Nat.le_refl _) _ _ _ _ _ _
                            | with_reducible exact hYB.store6New hX9.size _ _ _ _ _ _
                            | with_reducible exact But.of_below ((Below.refl _ _).alloc (Nat.le_refl _) _).drew _))
                          (first
                            | (go_at_call 9; refine (CH.out _).mono ?_; rintro e w9 ⟨rfl, hb9⟩; have hX9 : Below wr.heap.size wr w9 := (by first | (with_reducible exact HD0.out.trans (hb9.mono HD0.out.size)) | (with_reducible exact HD1.out.trans (hb9.mono HD1.out.size))); (try (have hrz := (by with_reducible exact HDZ.out.grown hb9 : Row w9 wr.heap.size 46 [.int .i64 0, .int .i64 0, .int .u32 0, .int .u32 0, .bool false, .slice none 0 0]))))
                            | (go_at_call 11; refine (CW.out _ (by (first | (with_reducible exact hX9) | (with_reducible exact hX9.alloc hX9.size _)))).mono ?_; rintro e w10 ⟨rfl, hend⟩; have hYE : LkEnd wr bp (mb h) B ⟨(h : Int) + 1, 1, 3⟩ (holdA (l h)) (holdG (l h)) (11 + (k : Int)) 1 false w10 := (by first | (with_reducible exact LkEnd.pre hX9 HT8.out.lk.book hend) | (with_reducible exact LkEnd.pre (hX9.alloc hX9.size _) HT8.out.lk.book hend)); have hYB := hYE.but; have hzb := hend.but; (try (have hrz2 := (by with_reducible exact hzb.row hrz (no_mb hrz (HT8.out.below hX9) hh3) : Row w10 wr.heap.size 46 [.int .i64 0, .int .i64 0, .int .u32 0, .int .u32 0, .bool false, .slice none 0 0]); obtain ⟨⟨t0, t1, t2, t3, t4, t5⟩, s0, s1, s2, s3, s4, s5⟩ := hrz2.at6)); (try (have hrz3 := (by with_reducible exact hzb.row (Row.new w9 46 [.int .i64 0, .int .i64 0, .int .u32 0, .int .u32 0, .bool false, .slice none 0 0]) (no_mb (Row.new w9 46 [.int .i64 0, .int .i64 0, .int .u32 0, .int .u32 0, .bool false, .slice none 0 0]) (HT8.out.below (hX9.alloc hX9.size _)) hh3) : Row w10 w9.heap.size 46 [.int .i64 0, .int .i64 0, .int .u32 0, .int .u32 0, .bool false, .slice none 0 0]); obtain ⟨⟨t0, t1, t2, t3, t4, t5⟩, s0, s1, s2, s3, s4, s5⟩ := hrz3.at6))))
                        all_goals (
                          go_wp2
                          go_meet
                          first
                            | (with_reducible exact ⟨w10.heap.size, rfl, rfl, Row.new w10 46 [.int .i64 ft, .int .i64 0, .int .u32 0, .int .u32 0, .bool false, .slice none 0 0], hYE.post ((Below.refl _ _).alloc (Nat.le_refl _) _)⟩)
                            | (with_reducible exact ⟨wr.heap.size, rfl, rfl, hrz2.store6 _ _ _ _ _ _, hYE.store6 HGLT.out (Nat.le_refl _) hrz2 _ _ _ _ _ _⟩)
                            | (with_reducible exact ⟨w9.heap.size, rfl, rfl, hrz3.store6 _ _ _ _ _ _, hYE.store6 HGLT.out hX9.size hrz3 _ _ _ _ _ _⟩))
                      case rest => as_aux_lemma =>
                        obtain ⟨z, rfl, rfl, hrow, hend⟩ := hcut
                        have hbk := hend.but
                        have HLX := Lib.hid (HL8.out.but HT8.out hh3 hbk)
                        have hno : ∀ x ∈ B.N, sameH x.rc.hs x.rc.hg (11 + (k : Int)) 1 = false := fun x hx => by
                          have h1 := HANY.out; rw [List.any_eq_false] at h1; have := h1 x hx; simpa using this
                        obtain ⟨B2, hT2⟩ : ∃ B2, Turn w wc lp mp bp 3 mb f B2 (upd3 l h (l h ++ [k])) (j + 1) := by
                          have he := hend
                          unfold LkEnd at he
                          rw [if_neg (by decide)] at he
                          unfold LEnd at he
                          rw [hold_zero] at he
                          cases hlh : l h with
                          | nil =>
                            rw [hlh] at he
                            simp only [List.isEmpty_nil, if_true] at he
                            have := HT8.out.free hh3 hk6 hlh he.1 he.2
                            rw [hlh] at this
                            exact ⟨B, this⟩
                          | cons a t =>
                            rw [hlh] at he
                            rw [if_neg (by simp)] at he
                            obtain ⟨B', x, hp⟩ := he
                            have := HT8.out.park hh3 hk6 (by rw [hlh]; simp) hp hno
                            rw [hlh] at this
                            exact ⟨B', this⟩
                        have HT2 := Lib.hid hT2
                        have hG9 := hbk.row HG8.out (by
                          rintro (e | e)
                          · exact HT8.out.lk.book.mem.not_own HG8.out (by decide) e
                          · exact HG8.out.ne (HT8.out.gr h hh3) (by decide) e)
                        have HG9 := Lib.hid hG9
                        have HWS := Lib.hid (Nat.le_trans HT8.out.bel.size hbk.size)
                        obtain ⟨⟨x0, _, _, _, _, x5⟩, _⟩ := hrow.at6
                        have hTl := HLX.out.own h hh3
                        rw [HVH.out, HLH.out] at hTl
                        have HTL := Lib.hid hTl
                        have cv := HLX.out.cell hh3
                        rw [HVH.out] at cv
                        have hf3 := HLX.out.frozen h
                        have g0 := HG9.out.cell 0
                        have g1 := HG9.out.cell 1
                        dsimp only [List.getElem?_cons_zero, List.getElem?_cons_succ] at g0 g1
                        obtain rfl : 0 = er := by have := HER.out; simpa using this
                        have hft2 := HFT.out
                        rw [hold_zero] at hft2
                        have HLO := Lib.hid HLX.out.lo
                        clear hrow hend hbk hno hT2 hG9 hTl CW HDZ HD0 HD1 HCQ q0 q1 q2 HL8 HT8 HFT HER
                        cases hz : (l h).isEmpty with
                        | true =>
                          rw [hz] at hft2
                          obtain rfl : 0 = ft := by simpa using hft2
                          obtain rfl : Lh = 0 := by have := List.isEmpty_iff.1 hz; rw [← HLH.out, this]; rfl
                          clear hft2 hz
                          go_upto_region 30 with fail
                          go_quiet (fail)
                          go_upto_region 32 with fail
                          have HT3 := Lib.hid (HT2.out.below (below_drewN (Below.refl _ _) nq))
                          have HLX3 := Lib.hid (HLX.out.below (below_drewN (Below.refl _ _) nq))
                          have HTL3 : Hid (Tail (wc.drewN nq) w.heap.size 35 2 (.slice Ah 0 ch) 0 (gos (l h))) := Lib.hid HTL.out
                          have g0 : (wc.drewN nq).cell? ⟨gq, 0, none⟩ = _ := g0
                          have g1 : (wc.drewN nq).cell? ⟨gq, 1, none⟩ = _ := g1
                          have cv : (wc.drewN nq).cell? ⟨lb, h, none⟩ = _ := cv
                          have hf3 : (wc.drewN nq).frozen? ⟨lb, h, none⟩ = _ := hf3
                          have HWS3 : Hid (w.heap.size ≤ (wc.drewN nq).heap.size) := HWS
                          clear x0 x5 HT2 HLX HTL HWS HG9
                          generalize wc.drewN nq = wd at *
                          have cva := fun o => (((Below.refl wd.heap.size wd).alloc (Nat.le_refl _) o).cell (p := ⟨lb, h, none⟩) HLX3.out.arr.lt).trans cv
                          obtain ⟨i0, hi, hiz, his, hib⟩ := info_parts infoHand
                          have HI := Lib.hid hi
                          have HIZ := Lib.hid hiz
                          have HIS := Lib.hid his
                          have HIB := Lib.hid hib
                          have HAL : Hid (∀ o, wd.grownBy (wd.alloc o).drew (Value.slice Ah 0 ch).ownBlock ∧ Tail (wd.alloc o).drew w.heap.size 35 2 (.slice Ah 0 ch) 0 (gos (l h))) := Lib.hid (fun o => ⟨⟨(World.grownBy_alloc wd o (Value.slice Ah 0 ch).ownBlock).os, (World.grownBy_alloc wd o (Value.slice Ah 0 ch).ownBlock).tape, (World.grownBy_alloc wd o (Value.slice Ah 0 ch).ownBlock).output, (World.grownBy_alloc wd o (Value.slice Ah 0 ch).ownBlock).size, (World.grownBy_alloc wd o (Value.slice Ah 0 ch).ownBlock).block⟩, HTL3.out.move fun g hg => heap_alloc_old wd o (HTL3.out.lt g hg).2⟩)
                          have NA : Hid (∀ (j : Nat) (u : Value), ([.int .u32 (11 + (k : Int)), .int .u32 1] : List Value)[j]? = some u → (wd.alloc (Obj.cells #[.int .u32 (11 + (k : Int)), .int .u32 1] 35)).drew.cell? ((⟨wd.heap.size, 0, none⟩ : Addr).add j) = some u) := Lib.hid (fun j u hu => World.news_of_block (w := wd.alloc (Obj.cells #[.int .u32 (11 + (k : Int)), .int .u32 1] 35)) (cs := #[.int .u32 (11 + (k : Int)), .int .u32 1]) (t := 35) (fr := (0, 0)) (heap_alloc_new wd _) j u hu)
                          clear hi hiz his hib
                          go_region_law (
                            refine step_append_tail (by rfl) _ _ _ (by rfl) w.heap.size 35 i0 (.agg #[.int .u32 0, .int .u32 0]) 2 8 Try.underlying30 HI.out HIZ.out HIS.out HIB.out (by rfl) (by decide) (.slice Ah 0 ch) 0 (gos (l h)) (by rfl) (HAL.out _).2 ⟨wd.heap.size, 0, none⟩ 1 1 [.int .u32 (11 + (k : Int)), .int .u32 1] (by rfl) (by rfl) NA.out (by simp [Value.oneCell']) (by omega) (by unfold maxLen; omega) (by omega) (by have := HWS3.out; simp; omega) (wd.heap.size + 1) (by simp) ?_; intro g off cap w5 ho5 hg5 hl5
                            have hg6 : wd.grownBy w5 (Value.slice Ah 0 ch).ownBlock := ((HAL.out _).1).trans hg5
                            have hLB : Row w5 lb 31 [v 0, v 1, v 2] := (hg6.block lb HLX3.out.arr.lt (fun e => by obtain ⟨cs, hr⟩ := HTL3.out.row e.symm; exact hr.ne HLX3.out.arr (by decide) rfl)).trans HLX3.out.arr
                            have hf5 := hLB.frozen h
                            have hc5 : w5.cell? ⟨lb, h, none⟩ = some (.slice Ah 0 ch) := (World.cell?_of_block (a := ⟨lb, h, none⟩) (hLB.trans HLX3.out.arr.symm)).trans cv
                            have HO5 := Lib.hid ho5
                            have HG5 := Lib.hid hg6
                            have HL5 := Lib.hid hl5
                            clear ho5 hg5 hl5 hg6 hLB)
                          all_goals (
                            go_wp2_with fail
                            go_meet
                            have hv : Value.slice Ah 0 ch = v h := HVH.out.symm
                            have hll : (l h).length = 0 := HLH.out
                            exact ⟨B2, _, _, rfl, HT3.out.lines HLX3.out (HLX3.out.grown hh3 HVH.out HG5.out _ _), HLX3.out.put hh3 (by rw [hll]; exact HO5.out) (by rw [← hv]; exact HG5.out) (by rw [← hv]; rcases HL5.out with e | e; exact .inl e.symm; exact .inr ⟨g, rfl, by omega⟩)⟩)
                        | false =>
                          rw [hz] at hft2
                          obtain rfl : 1 = ft := by simpa using hft2
                          have hL1 : 0 < Lh := by
                            rw [← HLH.out]; apply List.length_pos_iff.2; intro e; rw [e] at hz; cases hz
                          have hL1i : (0 : Int) < (Lh : Int) := by omega
                          have t1 : ((Lh : Int) == 0) = false := by simp; omega
                          have t2 : decide ((0 : Int) < (Lh : Int)) = true := decide_eq_true (by omega)
                          have t3 : decide (0 < Lh) = true := decide_eq_true hL1
                          have t4 : (Lh == 0) = false := by simp; omega
                          clear hft2 hz
                          go_upto_region 30 with fail
                          go_quiet (fail)
                          go_upto_region 32 with fail
                          have HT3 := Lib.hid (HT2.out.below (below_drewN (Below.refl _ _) nq))
                          have HLX3 := Lib.hid (HLX.out.below (below_drewN (Below.refl _ _) nq))
                          have HTL3 : Hid (Tail (wc.drewN nq) w.heap.size 35 2 (.slice Ah Lh ch) Lh (gos (l h))) := Lib.hid HTL.out
                          have g0 : (wc.drewN nq).cell? ⟨gq, 0, none⟩ = _ := g0
                          have g1 : (wc.drewN nq).cell? ⟨gq, 1, none⟩ = _ := g1
                          have cv : (wc.drewN nq).cell? ⟨lb, h, none⟩ = _ := cv
                          have hf3 : (wc.drewN nq).frozen? ⟨lb, h, none⟩ = _ := hf3
                          have HWS3 : Hid (w.heap.size ≤ (wc.drewN nq).heap.size) := HWS
                          clear x0 x5 HT2 HLX HTL HWS HG9
                          generalize wc.drewN nq = wd at *
                          have cva := fun o => (((Below.refl wd.heap.size wd).alloc (Nat.le_refl _) o).cell (p := ⟨lb, h, none⟩) HLX3.out.arr.lt).trans cv
                          obtain ⟨i0, hi, hiz, his, hib⟩ := info_parts infoHand
                          have HI := Lib.hid hi
                          have HIZ := Lib.hid hiz
                          have HIS := Lib.hid his
                          have HIB := Lib.hid hib
                          have HAL : Hid (∀ o, wd.grownBy (wd.alloc o).drew (Value.slice Ah Lh ch).ownBlock ∧ Tail (wd.alloc o).drew w.heap.size 35 2 (.slice Ah Lh ch) Lh (gos (l h))) := Lib.hid (fun o => ⟨⟨(World.grownBy_alloc wd o (Value.slice Ah Lh ch).ownBlock).os, (World.grownBy_alloc wd o (Value.slice Ah Lh ch).ownBlock).tape, (World.grownBy_alloc wd o (Value.slice Ah Lh ch).ownBlock).output, (World.grownBy_alloc wd o (Value.slice Ah Lh ch).ownBlock).size, (World.grownBy_alloc wd o (Value.slice Ah Lh ch).ownBlock).block⟩, HTL3.out.move fun g hg => heap_alloc_old wd o (HTL3.out.lt g hg).2⟩)
                          have NA : Hid (∀ (j : Nat) (u : Value), ([.int .u32 (11 + (k : Int)), .int .u32 1] : List Value)[j]? = some u → (wd.alloc (Obj.cells #[.int .u32 (11 + (k : Int)), .int .u32 1] 35)).drew.cell? ((⟨wd.heap.size, 0, none⟩ : Addr).add j) = some u) := Lib.hid (fun j u hu => World.news_of_block (w := wd.alloc (Obj.cells #[.int .u32 (11 + (k : Int)), .int .u32 1] 35)) (cs := #[.int .u32 (11 + (k : Int)), .int .u32 1]) (t := 35) (fr := (0, 0)) (heap_alloc_new wd _) j u hu)
                          clear hi hiz his hib
                          go_region_law (
                            refine step_append_tail (by rfl) _ _ _ (by rfl) w.heap.size 35 i0 (.agg #[.int .u32 0, .int .u32 0]) 2 8 Try.underlying30 HI.out HIZ.out HIS.out HIB.out (by rfl) (by decide) (.slice Ah Lh ch) Lh (gos (l h)) (by rfl) (HAL.out _).2 ⟨wd.heap.size, 0, none⟩ 1 1 [.int .u32 (11 + (k : Int)), .int .u32 1] (by rfl) (by rfl) NA.out (by simp [Value.oneCell']) (by omega) (by unfold maxLen; omega) (by omega) (by have := HWS3.out; simp; omega) (wd.heap.size + 1) (by simp) ?_; intro g off cap w5 ho5 hg5 hl5
                            have hg6 : wd.grownBy w5 (Value.slice Ah Lh ch).ownBlock := ((HAL.out _).1).trans hg5
                            have hLB : Row w5 lb 31 [v 0, v 1, v 2] := (hg6.block lb HLX3.out.arr.lt (fun e => by obtain ⟨cs, hr⟩ := HTL3.out.row e.symm; exact hr.ne HLX3.out.arr (by decide) rfl)).trans HLX3.out.arr
                            have hf5 := hLB.frozen h
                            have hc5 : w5.cell? ⟨lb, h, none⟩ = some (.slice Ah Lh ch) := (World.cell?_of_block (a := ⟨lb, h, none⟩) (hLB.trans HLX3.out.arr.symm)).trans cv
                            have HO5 := Lib.hid ho5
                            have HG5 := Lib.hid hg6
                            have HL5 := Lib.hid hl5
                            clear ho5 hg5 hl5 hg6 hLB)
                          all_goals (
                            go_wp2_with fail
                            go_meet
                            have hv : Value.slice Ah Lh ch = v h := HVH.out.symm
                            have hll : (l h).length = Lh := HLH.out
                            exact ⟨B2, _, _, rfl, HT3.out.lines HLX3.out (HLX3.out.grown hh3 HVH.out HG5.out _ _), HLX3.out.put hh3 (by rw [hll]; exact HO5.out) (by rw [← hv]; exact HG5.out) (by rw [← hv]; rcases HL5.out with e | e; exact .inl e.symm; exact .inr ⟨g, rfl, by omega⟩)⟩)

                    | false => as_aux_lemma =>
                      clear hA
                      go_upto_region 33 with fail
                      obtain ⟨i0, hi, hiz, his, hib⟩ := info_parts infoHand
                      have HI := Lib.hid hi
                      have HIS := Lib.hid his
                      clear hi hiz his hib
                      obtain ⟨lh, hlh⟩ : ∃ lh, l h = lh := ⟨_, rfl⟩
                      have HLL := Lib.hid hlh
                      cases lh with
                      | nil =>
                        obtain rfl : Lh = 0 := by rw [← HLH.out, hlh]; rfl
                        have HAB : Hid (sameH (holdA (l h)) (holdG (l h)) 0 0 = true) := Lib.hid (by rw [hold_zero, hlh]; rfl)
                        clear hlh hf3
                        have CU := Lib.hid (fun w' (hw' : Below wr.heap.size wr w') => unlockNo_c lp mp bp 3 f B ((h : Int) + 1) 1 (mb h) (holdA (l h)) (holdG (l h)) w' (HT8.out.below hw').lk HW3.out rfl HFH.out ((HT8.out.below hw').gr h hh3) HZ3.out HAB.out)
                        unfold didV at CU
                        go_upto_region 34 with (first
                          | (go_at_call 9; refine (CH.out _).mono ?_; rintro e w9 ⟨rfl, hb9⟩; have HT9 := Lib.hid (HT8.out.below hb9); have HL9 := Lib.hid (HL8.out.below hb9); have HB9 := Lib.hid hb9; clear hb9)
                          | (go_at_call 12; refine (CU.out _ HB9.out).mono ?_; rintro e w10 ⟨rfl, hres⟩))
                        clear HT8 HL8 HG8 q0 q1 q2 cv
                        have HTU := Lib.hid (HT9.out.below hres).more
                        have HLU := Lib.hid (HL9.out.below hres)
                        clear hres
                        have hD := Row.new w10 46 [.int .i64 15, .int .i64 0, .int .u32 0, .int .u32 0, .bool false, .slice none 0 0]
                        have hA := (Below.refl w10.heap.size w10).alloc (Nat.le_refl _) (.cells #[.int .i64 15, .int .i64 0, .int .u32 0, .int .u32 0, .bool false, .slice none 0 0] 46)
                        have HTD := Lib.hid (HTU.out.below hA)
                        have HLD := Lib.hid (HLU.out.below hA)
                        change Row (w10.alloc (.cells #[.int .i64 15, .int .i64 0, .int .u32 0, .int .u32 0, .bool false, .slice none 0 0] 46)) _ _ _ at hD
                        have HD := Lib.hid hD
                        obtain ⟨⟨x0, _, _, _, _, x5⟩, _⟩ := hD.at6
                        have cv := HLD.out.cell hh3
                        rw [HVH.out] at cv
                        clear hD hA HTU HLU HT9 HL9 HB9 CU
                        generalize w10.alloc (.cells #[.int .i64 15, .int .i64 0, .int .u32 0, .int .u32 0, .bool false, .slice none 0 0] 46) = wd at *
                        generalize w10.heap.size = z at *
                        go_quiet (fail)
                        have HTE := Lib.hid (HTD.out.below (below_drewN (Below.refl _ _) nq))
                        have HLE := Lib.hid (HLD.out.below (below_drewN (Below.refl _ _) nq))
                        have HDE := Lib.hid (HD.out.drewN nq)
                        have x0 : (wd.drewN nq).cell? ⟨z, 0, none⟩ = _ := x0
                        have x5 : (wd.drewN nq).cell? ⟨z, 5, none⟩ = _ := x5
                        have cv : (wd.drewN nq).cell? ⟨lb, h, none⟩ = _ := cv
                        clear HTD HLD HD
                        generalize wd.drewN nq = we at *
                        go_wp2_with fail
                        go_quiet (fail)
                        go_wp2_with fail
                        go_meet
                        exact ⟨_, _, _, rfl, HTE.out.below (below_drewN (Below.refl _ _) nq), HLE.out.below (below_drewN (Below.refl _ _) nq)⟩

                      | cons k0 t =>
                        have HAB : Hid (sameH (holdA (l h)) (holdG (l h)) 0 0 = false) := Lib.hid (by rw [hold_zero, hlh]; rfl)
                        have hrow := HT8.out.head hh3
                        have hNl : B.N.length ≤ 100000 := by have := HT8.out.few.2.2.2; omega
                        have HNL := Lib.hid hNl
                        cases t with
                        | nil =>
                          obtain rfl : Lh = 1 := by rw [← HLH.out, hlh]; rfl
                          have hx : (inRow (key3 h) B.N).head? = none := by
                            rw [hlh] at hrow
                            rw [List.eq_nil_of_length_eq_zero (show (inRow (key3 h) B.N).length = 0 by rw [hrow]; rfl)]; rfl
                          have HXN : Hid ((inRow ⟨(h : Int) + 1, 1, 3⟩ B.N).head? = none) := Lib.hid hx
                          clear hlh hf3 hrow hNl hx
                          have CU := Lib.hid (fun w' (hw' : Below wr.heap.size wr w') => unlockOff_c lp mp bp 3 f B ((h : Int) + 1) 1 (mb h) (holdA (l h)) (holdG (l h)) w' (HT8.out.below hw').lk HW3.out rfl HFH.out ((HT8.out.below hw').gr h hh3) HZ3.out HAB.out HNL.out HXN.out)
                          unfold UnlockTo at CU
                          rw [HXN.out] at CU
                          dsimp only at CU
                          unfold didV at CU
                          go_upto_region 34 with (first
                            | (go_at_call 9; refine (CH.out _).mono ?_; rintro e w9 ⟨rfl, hb9⟩; have HT9 := Lib.hid (HT8.out.below hb9); have HL9 := Lib.hid (HL8.out.below hb9); have HB9 := Lib.hid hb9; clear hb9)
                            | (go_at_call 12; refine (CU.out _ HB9.out).mono ?_; rintro e w10 ⟨rfl, hu⟩))
                          clear HT8 HL8 HG8 q0 q1 q2 cv
                          have HTU := Lib.hid (HT9.out.give hh3 HLL.out hu)
                          have HLU := Lib.hid (HL9.out.but HT9.out hh3 hu.but)
                          clear hu
                          have hD := Row.new w10 46 [.int .i64 0, .int .i64 0, .int .u32 0, .int .u32 0, .bool false, .slice none 0 0]
                          have hA := (Below.refl w10.heap.size w10).alloc (Nat.le_refl _) (.cells #[.int .i64 0, .int .i64 0, .int .u32 0, .int .u32 0, .bool false, .slice none 0 0] 46)
                          have HTD := Lib.hid (HTU.out.below hA)
                          have HLD := Lib.hid (HLU.out.below hA)
                          change Row (w10.alloc (.cells #[.int .i64 0, .int .i64 0, .int .u32 0, .int .u32 0, .bool false, .slice none 0 0] 46)) _ _ _ at hD
                          have HD := Lib.hid hD
                          obtain ⟨⟨x0, _, _, _, _, x5⟩, _⟩ := hD.at6
                          have cv := HLD.out.cell hh3
                          rw [HVH.out] at cv
                          clear hD hA HTU HLU HT9 HL9 HB9 CU
                          generalize w10.alloc (.cells #[.int .i64 0, .int .i64 0, .int .u32 0, .int .u32 0, .bool false, .slice none 0 0] 46) = wd at *
                          generalize w10.heap.size = z at *
                          go_quiet (fail)
                          have HTE := Lib.hid (HTD.out.below (below_drewN (Below.refl _ _) nq))
                          have HLE := Lib.hid (HLD.out.below (below_drewN (Below.refl _ _) nq))
                          have HDE := Lib.hid (HD.out.drewN nq)
                          have x0 : (wd.drewN nq).cell? ⟨z, 0, none⟩ = _ := x0
                          have x5 : (wd.drewN nq).cell? ⟨z, 5, none⟩ = _ := x5
                          have cv : (wd.drewN nq).cell? ⟨lb, h, none⟩ = _ := cv
                          clear HTD HLD HD
                          generalize wd.drewN nq = we at *
                          have hrest := Tail.rest (P := Try.prog) Try.underlying30 HI.out HIS.out (m := 0) (by have := HLE.out.own h hh3; rw [HVH.out, HLH.out] at this; exact this)
                          obtain ⟨v2, hrun, hT2, hv2⟩ := hrest
                          rw [HLL.out, gos_drop] at hT2
                          obtain ⟨A2, c2, rfl, _⟩ := hT2.form
                          have hne : z ≠ lb := HDE.out.ne HLE.out.arr (by decide)
                          have hLF := HLE.out.set hh3 (x := .slice A2 0 c2) (m := []) hT2 (fun k q hk hkh hq => by rw [hv2, ← HVH.out] at hq; exact HLE.out.ap h k q hh3 hk (fun e => hkh e.symm) hq)
                          have hTF := HTE.out.lines HLE.out ((But.refl (fun q => q = lb ∨ ∃ h, h < 3 ∧ (v h).ownBlock = some q) we).set ⟨lb, h, none⟩ (.slice A2 0 c2) (.inl rfl))
                          have hDF := HDE.out.far (p := ⟨lb, h, none⟩) hne (.slice A2 0 c2)
                          have hcF : (we.setCell ⟨lb, h, none⟩ (.slice A2 0 c2)).cell? ⟨lb, h, none⟩ = some (.slice A2 0 c2) := by
                            have := hLF.cell hh3
                            rw [upd3_same] at this
                            exact this
                          have hf3 := HLE.out.frozen h
                          have HLF := Lib.hid hLF
                          have HTF := Lib.hid hTF
                          have HDF := Lib.hid hDF
                          have HCF := Lib.hid hcF
                          clear hT2 hv2 hne hLF hTF hDF hcF HTE HLE HDE
                          go_upto_region 38 with fail
                          clear x0 x5 cv hf3 hrun
                          have cv := HCF.out
                          obtain ⟨⟨x0, _, _, _, _, x5⟩, _⟩ := HDF.out.at6
                          clear HCF HDF
                          generalize we.setCell ⟨lb, h, none⟩ (.slice A2 0 c2) = wf at *
                          go_quiet (fail)
                          go_wp2_with fail
                          go_meet
                          exact ⟨_, _, _, rfl, HTF.out.below (below_drewN (Below.refl _ _) nq), HLF.out.below (below_drewN (Below.refl _ _) nq)⟩

                        | cons k1 l0 =>
                          obtain ⟨m, hm⟩ : ∃ m, (k1 :: l0).length = m := ⟨_, rfl⟩
                          have HHM : Hid (Lh = m + 1) := Lib.hid (by rw [← HLH.out, hlh, ← hm]; rfl)
                          have hL1 : 0 < Lh := by have := HHM.out; omega
                          have hL1i : (0 : Int) < (Lh : Int) := by omega
                          have HMM := Lib.hid hm
                          have hm1 : 0 < m := by rw [← hm]; simp
                          obtain ⟨x, hx⟩ : ∃ x, (inRow (key3 h) B.N).head? = some x := by
                            cases hr : inRow (key3 h) B.N with
                            | nil => rw [hr, hlh] at hrow; simp at hrow
                            | cons y r => exact ⟨y, rfl⟩
                          have HXS : Hid ((inRow ⟨(h : Int) + 1, 1, 3⟩ B.N).head? = some x) := Lib.hid hx
                          have t1 : ((Lh : Int) == 0) = false := by simp; omega
                          have t2 : decide ((0 : Int) < (Lh : Int)) = true := decide_eq_true (by omega)
                          have t3 : decide (0 < Lh) = true := decide_eq_true hL1
                          have t4 : (Lh == 0) = false := by simp; omega
                          have t5 : decide ((0 : Int) < (m : Int)) = true := decide_eq_true (by omega)
                          have t6 : decide (0 < m) = true := decide_eq_true hm1
                          clear hlh hf3 hrow hNl hx hm
                          have CU := Lib.hid (fun w' (hw' : Below wr.heap.size wr w') => unlockOn_c lp mp bp 3 f B ((h : Int) + 1) 1 (mb h) (holdA (l h)) (holdG (l h)) w' (HT8.out.below hw').lk HW3.out rfl HFH.out ((HT8.out.below hw').gr h hh3) HZ3.out HAB.out HNL.out x HXS.out)
                          unfold UnlockTo at CU
                          rw [HXS.out] at CU
                          dsimp only at CU
                          unfold didV at CU
                          go_upto_region 34 with (first
                            | (go_at_call 9; refine (CH.out _).mono ?_; rintro e w9 ⟨rfl, hb9⟩; have HT9 := Lib.hid (HT8.out.below hb9); have HL9 := Lib.hid (HL8.out.below hb9); have HB9 := Lib.hid hb9; clear hb9)
                            | (go_at_call 12; refine (CU.out _ HB9.out).mono ?_; rintro e w10 ⟨q, rfl, hq, hrq, hu⟩))
                          clear HT8 HL8 HG8 q0 q1 q2 cv
                          obtain ⟨hxs, hxg, htu⟩ := HT9.out.hand hh3 HLL.out HXS.out hu
                          have HTU := Lib.hid htu
                          have HLU := Lib.hid (HL9.out.but HT9.out hh3 hu.but)
                          rw [hxs, hxg] at hrq
                          clear hu htu hxs hxg hq
                          have hD := Row.new w10 46 [.int .i64 0, .int .i64 0, .int .u32 0, .int .u32 0, .bool false, .slice (some ⟨q, 0, none⟩) 1 1]
                          have hA := (Below.refl w10.heap.size w10).alloc (Nat.le_refl _) (.cells #[.int .i64 0, .int .i64 0, .int .u32 0, .int .u32 0, .bool false, .slice (some ⟨q, 0, none⟩) 1 1] 46)
                          have HTD := Lib.hid (HTU.out.below hA)
                          have HLD := Lib.hid (HLU.out.below hA)
                          have HQ := Lib.hid (hrq.alloc (.cells #[.int .i64 0, .int .i64 0, .int .u32 0, .int .u32 0, .bool false, .slice (some ⟨q, 0, none⟩) 1 1] 46))
                          clear hrq
                          change Row (w10.alloc (.cells #[.int .i64 0, .int .i64 0, .int .u32 0, .int .u32 0, .bool false, .slice (some ⟨q, 0, none⟩) 1 1] 46)) _ _ _ at hD
                          have HD := Lib.hid hD
                          obtain ⟨⟨x0, _, _, _, _, x5⟩, _⟩ := hD.at6
                          have cv := HLD.out.cell hh3
                          rw [HVH.out] at cv
                          clear hD hA HTU HLU HT9 HL9 HB9 CU
                          generalize w10.alloc (.cells #[.int .i64 0, .int .i64 0, .int .u32 0, .int .u32 0, .bool false, .slice (some ⟨q, 0, none⟩) 1 1] 46) = wd at *
                          generalize w10.heap.size = z at *
                          go_quiet (fail)
                          have HTE := Lib.hid (HTD.out.below (below_drewN (Below.refl _ _) nq))
                          have HLE := Lib.hid (HLD.out.below (below_drewN (Below.refl _ _) nq))
                          have HDE := Lib.hid (HD.out.drewN nq)
                          have HQE := Lib.hid (HQ.out.drewN nq)
                          clear HQ
                          have x0 : (wd.drewN nq).cell? ⟨z, 0, none⟩ = _ := x0
                          have x5 : (wd.drewN nq).cell? ⟨z, 5, none⟩ = _ := x5
                          have cv : (wd.drewN nq).cell? ⟨lb, h, none⟩ = _ := cv
                          clear HTD HLD HD
                          generalize wd.drewN nq = we at *
                          have hrest := Tail.rest (P := Try.prog) Try.underlying30 HI.out HIS.out (m := m) (by have := HLE.out.own h hh3; rw [HVH.out, HLH.out, HHM.out] at this; exact this)
                          obtain ⟨v2, hrun, hT2, hv2⟩ := hrest
                          rw [HLL.out, gos_drop] at hT2
                          rw [← HHM.out] at hrun
                          obtain ⟨A2, c2, rfl, _⟩ := hT2.form
                          have hne : z ≠ lb := HDE.out.ne HLE.out.arr (by decide)
                          have hLF := HLE.out.set hh3 (x := .slice A2 m c2) (m := k1 :: l0) (by rw [HMM.out]; exact hT2) (fun k q hk hkh hq => by rw [hv2, ← HHM.out, ← HVH.out] at hq; exact HLE.out.ap h k q hh3 hk (fun e => hkh e.symm) hq)
                          have hTF := HTE.out.lines HLE.out ((But.refl (fun q => q = lb ∨ ∃ h, h < 3 ∧ (v h).ownBlock = some q) we).set ⟨lb, h, none⟩ (.slice A2 m c2) (.inl rfl))
                          have hDF := HDE.out.far (p := ⟨lb, h, none⟩) hne (.slice A2 m c2)
                          have hcF : (we.setCell ⟨lb, h, none⟩ (.slice A2 m c2)).cell? ⟨lb, h, none⟩ = some (.slice A2 m c2) := by
                            have := hLF.cell hh3
                            rw [upd3_same] at this
                            exact this
                          have hqF := HQE.out.far (p := ⟨lb, h, none⟩) (HQE.out.ne HLE.out.arr (by decide)) (.slice A2 m c2)
                          have HQF := Lib.hid hqF
                          clear hqF HQE
                          have hf3 := HLE.out.frozen h
                          have HLF := Lib.hid hLF
                          have HTF := Lib.hid hTF
                          have HDF := Lib.hid hDF
                          have HCF := Lib.hid hcF
                          clear hT2 hv2 hne hLF hTF hDF hcF HTE HLE HDE
                          go_upto_region 38 with fail
                          clear x0 x5 cv hf3 hrun
                          have cv := HCF.out
                          obtain ⟨⟨x0, _, _, _, _, x5⟩, _⟩ := HDF.out.at6
                          clear HCF HDF
                          generalize we.setCell ⟨lb, h, none⟩ (.slice A2 m c2) = wf at *
                          obtain ⟨A3, c3, hv3, hc3⟩ := HLF.out.form hh3
                          rw [upd3_same, upd3_same, HMM.out] at hv3
                          injection hv3 with e1 _ e3
                          subst e1 e3
                          obtain ⟨g2, off2, rfl, y0, y1⟩ := hc3 0 k1 (by rw [upd3_same]; rfl)
                          obtain ⟨⟨r0, r1, _⟩, _⟩ := HQF.out.at8
                          rw [Nat.zero_mul, Nat.add_zero] at y0 y1
                          have e1 := fun w => run_neq_handle (11 + (k1 : Int)) 1 (11 + (k1 : Int)) 1 w
                          rw [sameH_iff.2 ⟨rfl, rfl⟩] at e1
                          have m0 : (0 : Int) < (m : Int) := by omega
                          clear hc3
                          go_quiet (fail)
                          go_wp2_with fail
                          go_meet
                          exact ⟨_, _, _, rfl, HTF.out.below (below_drewN (Below.refl _ _) nq), HLF.out.below (below_drewN (Below.refl _ _) nq)⟩

                  case rest => as_aux_lemma =>
                    obtain ⟨B2, l2, v2, rfl, hT2, hL2⟩ := hcut
                    obtain ⟨A2, c2, hv2, hc2⟩ := hL2.form hh3
                    have HT := Lib.hid hT2
                    have HL := Lib.hid hL2
                    have hlen := hT2.len h hh3
                    have hhd := hT2.head hh3
                    have hNl : B2.N.length ≤ 100000 := by have := hT2.few.2.2.2; omega
                    have HNL := Lib.hid hNl
                    have HKO : Hid (Key.Ok (key3 h)) := Lib.hid ⟨HW3.out, rfl, rfl⟩
                    clear hT2 hL2 hNl HT8 HL8 HG8 q0 q1 q2 cv hf3 HVH HCHH HLH hl5 hA HANY HZG HWF
                    obtain ⟨lh, hlh⟩ : ∃ lh, l2 h = lh := ⟨_, rfl⟩
                    rw [hlh] at hv2 hc2 hlen hhd
                    have HLL := Lib.hid hlh
                    have HV2 := Lib.hid hv2
                    clear hlh hv2
                    cases lh with
                    | nil =>
                      have HHD := Lib.hid hhd
                      clear hc2 hhd hlen
                      have HHR : Hid (Row wc (mb h) 82 [.int .u32 0, .int .u32 0]) := Lib.hid (by have := HT.out.gr h hh3; rw [HLL.out] at this; exact this)
                      go_upto_region 41 with (first
                        | (go_at_call 9; refine (CH.out _).mono ?_; rintro e w9 ⟨rfl, hb9⟩; have HT9 := Lib.hid (HT.out.below hb9); have HL9 := Lib.hid (HL.out.below hb9); have HHR9 := Lib.hid (HHR.out.below hb9 HHR.out.lt); clear hb9)
                        | (go_at_call 13; refine (holder_c lp mp bp 3 f B2 ((h : Int) + 1) 1 (mb h) 0 0 _ HT9.out.lk HW3.out rfl HFH.out HHR9.out).mono ?_; rintro e w10 ⟨rfl, hb10⟩; have HT10 := Lib.hid (HT9.out.below hb10); have HL10 := Lib.hid (HL9.out.below hb10); clear hb10))
                      clear HT HL HT9 HL9 HHR HHR9
                      have hA := (Below.refl w10.heap.size w10).alloc (Nat.le_refl _) (.cells #[.int .u32 0, .int .u32 0] 35)
                      have HTF := Lib.hid (HT10.out.below hA)
                      have HLF := Lib.hid (HL10.out.below hA)
                      have hX := Row.new w10 35 [.int .u32 0, .int .u32 0]
                      change Row (w10.alloc (.cells #[.int .u32 0, .int .u32 0] 35)) _ _ _ at hX
                      have x0 := hX.cell 0
                      have x1 := hX.cell 1
                      dsimp only [List.getElem?_cons_zero, List.getElem?_cons_succ] at x0 x1
                      have cv := HLF.out.cell hh3
                      rw [HV2.out] at cv
                      clear hX hA HT10 HL10
                      go_upto_region 42 with fail
                      generalize w10.alloc (.cells #[.int .u32 0, .int .u32 0] 35) = wf at *
                      generalize w10.heap.size = xb at *
                      have CR := Lib.hid (fun w' (hw' : Below wf.heap.size wf w') => rowLen_c bp B2 (key3 h) 0 w' (HTF.out.below hw').lk.book HKO.out HNL.out HHD.out)
                      unfold key3 at CR
                      have e1 := fun w => run_neq_handle 0 0 0 0 w
                      rw [sameH_iff.2 ⟨rfl, rfl⟩] at e1
                      go_cut [10, 274] (fun v10 v274 wx => v10 = .int .i64 h ∧ v274 = .bool false ∧ Below wf.heap.size wf wx)
                      case first => as_aux_lemma =>
                        refine wp_region_held_drew (S := (fun w' => Below wf.heap.size wf w' ∧ w'.cell? ⟨xb, 0, none⟩ = some (.int .u32 0) ∧ w'.cell? ⟨xb, 1, none⟩ = some (.int .u32 0) ∧ w'.cell? ⟨lb, h, none⟩ = some (.slice A2 0 c2))) (by kernel_rfl) ?_ (fun hHeld => ?_)
                        · exact ⟨(Below.refl _ _).drew, x0, x1, cv⟩
                        refine wpAnyH_take (i := 0) (oi := { dst := some 236, op := Op.move (Operand.tmp 20), type := 27, pos := "law.go:204", after := #[], guard := none }) (v := ?vn0) rfl (by kernel_rfl) (by kernel_rfl) (by kernel_rfl) (fun _ _ _ h => h) (Or.inl ⟨by rfl, ?hn0⟩) hHeld ?rn0
                        case hn0 => ((intro w hSw; (try dsimp only at hSw); go_simp) <;> with_reducible rfl)
                        (try simp only [Act.put, List.setIfInBounds_toArray, List.set_cons_zero, List.set_cons_succ])
                        refine wpAnyH_take (i := 1) (oi := { dst := some 237, op := Op.binOp BinOp.neq 27 (Operand.tmp 236) (Operand.const (Value.int IntKind.i64 0)) 27, type := 4, pos := "law.go:204", after := #[{ on := 0, ground := Ground.data }], guard := none }) (v := ?vn1) rfl (by kernel_rfl) (by kernel_rfl) (by kernel_rfl) (fun _ _ _ h => h) (Or.inl ⟨by rfl, ?hn1⟩) hHeld ?rn1
                        case hn1 => ((intro w hSw; (try dsimp only at hSw); go_simp) <;> with_reducible rfl)
                        (try simp only [Act.put, List.setIfInBounds_toArray, List.set_cons_zero, List.set_cons_succ])
                        refine wpAnyH_take (i := 2) (oi := { dst := some 238, op := Op.move (Operand.tmp 237), type := 4, pos := "law.go:204", after := #[{ on := 1, ground := Ground.data }], guard := none }) (v := ?vn2) rfl (by kernel_rfl) (by kernel_rfl) (by kernel_rfl) (fun _ _ _ h => h) (Or.inl ⟨by rfl, ?hn2⟩) hHeld ?rn2
                        case hn2 => ((intro w hSw; (try dsimp only at hSw); go_simp) <;> with_reducible rfl)
                        (try simp only [Act.put, List.setIfInBounds_toArray, List.set_cons_zero, List.set_cons_succ])
                        refine wpAnyH_take (i := 3) (oi := { dst := some 239, op := Op.move (Operand.tmp 21), type := 4, pos := "law.go:204", after := #[{ on := 2, ground := Ground.guard }], guard := some (2, false) }) (v := ?vn3) rfl (by kernel_rfl) (by kernel_rfl) (by kernel_rfl) (fun _ _ _ h => h) (Or.inl ⟨by rfl, ?hn3⟩) hHeld ?rn3
                        case hn3 => ((intro w hSw; (try dsimp only at hSw); go_simp) <;> with_reducible rfl)
                        (try simp only [Act.put, List.setIfInBounds_toArray, List.set_cons_zero, List.set_cons_succ])
                        refine wpAnyH_take (i := 4) (oi := { dst := some 240, op := Op.move (Operand.tmp 239), type := 4, pos := "law.go:204", after := #[{ on := 3, ground := Ground.data }, { on := 2, ground := Ground.chain }, { on := 2, ground := Ground.guard }], guard := some (2, false) }) (v := ?vn4) rfl (by kernel_rfl) (by kernel_rfl) (by kernel_rfl) (fun _ _ _ h => h) (Or.inl ⟨by rfl, ?hn4⟩) hHeld ?rn4
                        case hn4 => ((intro w hSw; (try dsimp only at hSw); go_simp) <;> with_reducible rfl)
                        (try simp only [Act.put, List.setIfInBounds_toArray, List.set_cons_zero, List.set_cons_succ])
                        refine wpAnyH_take (i := 5) (oi := { dst := some 241, op := Op.load 35 (Operand.tmp 19), type := 35, pos := "law.go:204", after := #[{ on := 4, ground := Ground.guard }], guard := some (4, true) }) (v := undef) rfl (by kernel_rfl) (by kernel_rfl) (by kernel_rfl) (fun _ _ _ h => h) (Or.inr ⟨by rfl, rfl⟩) hHeld ?_
                        (try simp only [Act.put, List.setIfInBounds_toArray, List.set_cons_zero, List.set_cons_succ])
                        refine wpAnyH_take (i := 6) (oi := { dst := some 242, op := Op.move (Operand.tmp 10), type := 3, pos := "law.go:204", after := #[{ on := 4, ground := Ground.guard }], guard := some (4, true) }) (v := undef) rfl (by kernel_rfl) (by kernel_rfl) (by kernel_rfl) (fun _ _ _ h => h) (Or.inr ⟨by rfl, rfl⟩) hHeld ?_
                        (try simp only [Act.put, List.setIfInBounds_toArray, List.set_cons_zero, List.set_cons_succ])
                        refine wpAnyH_take (i := 7) (oi := { dst := some 243, op := Op.indexAddr 31 (Operand.tmp 7) (Operand.tmp 242), type := 0, pos := "law.go:204", after := #[{ on := 6, ground := Ground.data }, { on := 4, ground := Ground.guard }], guard := some (4, true) }) (v := undef) rfl (by kernel_rfl) (by kernel_rfl) (by kernel_rfl) (fun _ _ _ h => h) (Or.inr ⟨by rfl, rfl⟩) hHeld ?_
                        (try simp only [Act.put, List.setIfInBounds_toArray, List.set_cons_zero, List.set_cons_succ])
                        refine wpAnyH_take (i := 8) (oi := { dst := some 244, op := Op.load 30 (Operand.tmp 243), type := 30, pos := "law.go:204", after := #[{ on := 7, ground := Ground.data }, { on := 4, ground := Ground.guard }], guard := some (4, true) }) (v := undef) rfl (by kernel_rfl) (by kernel_rfl) (by kernel_rfl) (fun _ _ _ h => h) (Or.inr ⟨by rfl, rfl⟩) hHeld ?_
                        (try simp only [Act.put, List.setIfInBounds_toArray, List.set_cons_zero, List.set_cons_succ])
                        refine wpAnyH_take (i := 9) (oi := { dst := some 245, op := Op.indexAddr 30 (Operand.tmp 244) (Operand.const (Value.int IntKind.i64 0)), type := 0, pos := "law.go:204", after := #[{ on := 8, ground := Ground.data }, { on := 4, ground := Ground.guard }], guard := some (4, true) }) (v := undef) rfl (by kernel_rfl) (by kernel_rfl) (by kernel_rfl) (fun _ _ _ h => h) (Or.inr ⟨by rfl, rfl⟩) hHeld ?_
                        (try simp only [Act.put, List.setIfInBounds_toArray, List.set_cons_zero, List.set_cons_succ])
                        refine wpAnyH_take (i := 10) (oi := { dst := some 246, op := Op.load 35 (Operand.tmp 245), type := 35, pos := "law.go:204", after := #[{ on := 9, ground := Ground.data }, { on := 4, ground := Ground.guard }], guard := some (4, true) }) (v := undef) rfl (by kernel_rfl) (by kernel_rfl) (by kernel_rfl) (fun _ _ _ h => h) (Or.inr ⟨by rfl, rfl⟩) hHeld ?_
                        (try simp only [Act.put, List.setIfInBounds_toArray, List.set_cons_zero, List.set_cons_succ])
                        refine wpAnyH_take (i := 11) (oi := { dst := some 247, op := Op.binOp BinOp.neq 35 (Operand.tmp 241) (Operand.tmp 246) 35, type := 4, pos := "law.go:204", after := #[{ on := 5, ground := Ground.data }, { on := 10, ground := Ground.data }, { on := 4, ground := Ground.guard }], guard := some (4, true) }) (v := undef) rfl (by kernel_rfl) (by kernel_rfl) (by kernel_rfl) (fun _ _ _ h => h) (Or.inr ⟨by rfl, rfl⟩) hHeld ?_
                        (try simp only [Act.put, List.setIfInBounds_toArray, List.set_cons_zero, List.set_cons_succ])
                        refine wpAnyH_take (i := 12) (oi := { dst := some 248, op := Op.pick (Operand.tmp 240) (Operand.tmp 247) (Operand.const (Value.bool false)), type := 4, pos := "law.go:204", after := #[{ on := 4, ground := Ground.data }, { on := 11, ground := Ground.data }, { on := 2, ground := Ground.guard }], guard := some (2, false) }) (v := ?vn12) rfl (by kernel_rfl) (by kernel_rfl) (by kernel_rfl) (fun _ _ _ h => h) (Or.inl ⟨by rfl, ?hn12⟩) hHeld ?rn12
                        case hn12 => ((intro w hSw; (try dsimp only at hSw); go_simp) <;> with_reducible rfl)
                        (try simp only [Act.put, List.setIfInBounds_toArray, List.set_cons_zero, List.set_cons_succ])
                        refine wpAnyH_take (i := 13) (oi := { dst := some 249, op := Op.pick (Operand.tmp 238) (Operand.const (Value.bool true)) (Operand.tmp 248), type := 4, pos := "law.go:204", after := #[{ on := 2, ground := Ground.data }, { on := 12, ground := Ground.data }], guard := none }) (v := ?vn13) rfl (by kernel_rfl) (by kernel_rfl) (by kernel_rfl) (fun _ _ _ h => h) (Or.inl ⟨by rfl, ?hn13⟩) hHeld ?rn13
                        case hn13 => ((intro w hSw; (try dsimp only at hSw); go_simp) <;> with_reducible rfl)
                        (try simp only [Act.put, List.setIfInBounds_toArray, List.set_cons_zero, List.set_cons_succ])
                        refine wpAnyH_take (i := 14) (oi := { dst := some 250, op := Op.move (Operand.tmp 249), type := 4, pos := "law.go:204", after := #[{ on := 13, ground := Ground.data }, { on := 4, ground := Ground.chain }], guard := none }) (v := ?vn14) rfl (by kernel_rfl) (by kernel_rfl) (by kernel_rfl) (fun _ _ _ h => h) (Or.inl ⟨by rfl, ?hn14⟩) hHeld ?rn14
                        case hn14 => ((intro w hSw; (try dsimp only at hSw); go_simp) <;> with_reducible rfl)
                        (try simp only [Act.put, List.setIfInBounds_toArray, List.set_cons_zero, List.set_cons_succ])
                        refine wpAnyH_take (i := 15) (oi := { dst := some 251, op := Op.move (Operand.tmp 21), type := 4, pos := "law.go:204", after := #[{ on := 14, ground := Ground.guard }], guard := some (14, false) }) (v := ?vn15) rfl (by kernel_rfl) (by kernel_rfl) (by kernel_rfl) (fun _ _ _ h => h) (Or.inl ⟨by rfl, ?hn15⟩) hHeld ?rn15
                        case hn15 => ((intro w hSw; (try dsimp only at hSw); go_simp) <;> with_reducible rfl)
                        (try simp only [Act.put, List.setIfInBounds_toArray, List.set_cons_zero, List.set_cons_succ])
                        refine wpAnyH_take (i := 16) (oi := { dst := some 252, op := Op.unOp UnOp.not 4 (Operand.tmp 251), type := 4, pos := "law.go:204", after := #[{ on := 15, ground := Ground.data }, { on := 14, ground := Ground.guard }], guard := some (14, false) }) (v := ?vn16) rfl (by kernel_rfl) (by kernel_rfl) (by kernel_rfl) (fun _ _ _ h => h) (Or.inl ⟨by rfl, ?hn16⟩) hHeld ?rn16
                        case hn16 => ((intro w hSw; (try dsimp only at hSw); go_simp) <;> with_reducible rfl)
                        (try simp only [Act.put, List.setIfInBounds_toArray, List.set_cons_zero, List.set_cons_succ])
                        refine wpAnyH_take (i := 17) (oi := { dst := some 253, op := Op.move (Operand.tmp 252), type := 4, pos := "law.go:204", after := #[{ on := 16, ground := Ground.data }, { on := 14, ground := Ground.chain }, { on := 14, ground := Ground.guard }], guard := some (14, false) }) (v := ?vn17) rfl (by kernel_rfl) (by kernel_rfl) (by kernel_rfl) (fun _ _ _ h => h) (Or.inl ⟨by rfl, ?hn17⟩) hHeld ?rn17
                        case hn17 => ((intro w hSw; (try dsimp only at hSw); go_simp) <;> with_reducible rfl)
                        (try simp only [Act.put, List.setIfInBounds_toArray, List.set_cons_zero, List.set_cons_succ])
                        refine wpAnyH_take (i := 18) (oi := { dst := some 254, op := Op.load 35 (Operand.tmp 19), type := 35, pos := "law.go:204", after := #[{ on := 17, ground := Ground.guard }], guard := some (17, true) }) (v := ?vn18) rfl (by kernel_rfl) (by kernel_rfl) (by kernel_rfl) (fun _ _ _ h => h) (Or.inl ⟨by rfl, ?hn18⟩) hHeld ?rn18
                        case hn18 => ((intro w hSw; (try dsimp only at hSw); go_simp) <;> with_reducible rfl)
                        (try simp only [Act.put, List.setIfInBounds_toArray, List.set_cons_zero, List.set_cons_succ])
                        refine wpAnyH_take (i := 19) (oi := { dst := some 255, op := Op.build 35 #[], type := 35, pos := "law.go:204", after := #[{ on := 17, ground := Ground.guard }], guard := some (17, true) }) (v := ?vn19) rfl (by kernel_rfl) (by kernel_rfl) (by kernel_rfl) (fun _ _ _ h => h) (Or.inl ⟨by rfl, ?hn19⟩) hHeld ?rn19
                        case hn19 => ((intro w hSw; (try dsimp only at hSw); go_simp) <;> with_reducible rfl)
                        (try simp only [Act.put, List.setIfInBounds_toArray, List.set_cons_zero, List.set_cons_succ])
                        refine wpAnyH_take (i := 20) (oi := { dst := some 256, op := Op.binOp BinOp.neq 35 (Operand.tmp 254) (Operand.tmp 255) 35, type := 4, pos := "law.go:204", after := #[{ on := 18, ground := Ground.data }, { on := 19, ground := Ground.data }, { on := 17, ground := Ground.guard }], guard := some (17, true) }) (v := ?vn20) rfl (by kernel_rfl) (by kernel_rfl) (by kernel_rfl) (fun _ _ _ h => h) (Or.inl ⟨by rfl, ?hn20⟩) hHeld ?rn20
                        case hn20 => ((intro w hSw; (try dsimp only at hSw); go_simp) <;> with_reducible rfl)
                        (try simp only [Act.put, List.setIfInBounds_toArray, List.set_cons_zero, List.set_cons_succ])
                        refine wpAnyH_take (i := 21) (oi := { dst := some 257, op := Op.pick (Operand.tmp 253) (Operand.tmp 256) (Operand.const (Value.bool false)), type := 4, pos := "law.go:204", after := #[{ on := 17, ground := Ground.data }, { on := 20, ground := Ground.data }, { on := 14, ground := Ground.guard }], guard := some (14, false) }) (v := ?vn21) rfl (by kernel_rfl) (by kernel_rfl) (by kernel_rfl) (fun _ _ _ h => h) (Or.inl ⟨by rfl, ?hn21⟩) hHeld ?rn21
                        case hn21 => ((intro w hSw; (try dsimp only at hSw); go_simp) <;> with_reducible rfl)
                        (try simp only [Act.put, List.setIfInBounds_toArray, List.set_cons_zero, List.set_cons_succ])
                        refine wpAnyH_take (i := 22) (oi := { dst := some 258, op := Op.pick (Operand.tmp 250) (Operand.const (Value.bool true)) (Operand.tmp 257), type := 4, pos := "law.go:204", after := #[{ on := 14, ground := Ground.data }, { on := 21, ground := Ground.data }], guard := none }) (v := ?vn22) rfl (by kernel_rfl) (by kernel_rfl) (by kernel_rfl) (fun _ _ _ h => h) (Or.inl ⟨by rfl, ?hn22⟩) hHeld ?rn22
                        case hn22 => ((intro w hSw; (try dsimp only at hSw); go_simp) <;> with_reducible rfl)
                        (try simp only [Act.put, List.setIfInBounds_toArray, List.set_cons_zero, List.set_cons_succ])
                        refine wpAnyH_take (i := 23) (oi := { dst := some 259, op := Op.move (Operand.tmp 258), type := 4, pos := "law.go:204", after := #[{ on := 22, ground := Ground.data }, { on := 17, ground := Ground.chain }], guard := none }) (v := ?vn23) rfl (by kernel_rfl) (by kernel_rfl) (by kernel_rfl) (fun _ _ _ h => h) (Or.inl ⟨by rfl, ?hn23⟩) hHeld ?rn23
                        case hn23 => ((intro w hSw; (try dsimp only at hSw); go_simp) <;> with_reducible rfl)
                        (try simp only [Act.put, List.setIfInBounds_toArray, List.set_cons_zero, List.set_cons_succ])
                        refine wpAnyH_take (i := 24) (oi := { dst := some 260, op := Op.move (Operand.tmp 4), type := 24, pos := "law.go:204", after := #[{ on := 23, ground := Ground.guard }], guard := some (23, false) }) (v := ?vn24) rfl (by kernel_rfl) (by kernel_rfl) (by kernel_rfl) (fun _ _ _ h => h) (Or.inl ⟨by rfl, ?hn24⟩) hHeld ?rn24
                        case hn24 => ((intro w hSw; (try dsimp only at hSw); go_simp) <;> with_reducible rfl)
                        (try simp only [Act.put, List.setIfInBounds_toArray, List.set_cons_zero, List.set_cons_succ])
                        refine wpAnyH_take (i := 25) (oi := { dst := some 261, op := Op.move (Operand.tmp 10), type := 3, pos := "law.go:204", after := #[{ on := 23, ground := Ground.guard }], guard := some (23, false) }) (v := ?vn25) rfl (by kernel_rfl) (by kernel_rfl) (by kernel_rfl) (fun _ _ _ h => h) (Or.inl ⟨by rfl, ?hn25⟩) hHeld ?rn25
                        case hn25 => ((intro w hSw; (try dsimp only at hSw); go_simp) <;> with_reducible rfl)
                        (try simp only [Act.put, List.setIfInBounds_toArray, List.set_cons_zero, List.set_cons_succ])
                        refine wpAnyH_take (i := 26) (oi := { dst := some 262, op := Op.binOp BinOp.add 3 (Operand.tmp 261) (Operand.const (Value.int IntKind.i64 1)) 3, type := 3, pos := "law.go:204", after := #[{ on := 25, ground := Ground.data }, { on := 23, ground := Ground.guard }], guard := some (23, false) }) (v := ?vn26) rfl (by kernel_rfl) (by kernel_rfl) (by kernel_rfl) (fun _ _ _ h => h) (Or.inl ⟨by rfl, ?hn26⟩) hHeld ?rn26
                        case hn26 => ((intro w hSw; (try dsimp only at hSw); go_simp) <;> with_reducible rfl)
                        (try simp only [Act.put, List.setIfInBounds_toArray, List.set_cons_zero, List.set_cons_succ])
                        refine wpAnyH_take (i := 31) (oi := { dst := some 267, op := Op.move (Operand.tmp 10), type := 3, pos := "law.go:204", after := #[{ on := 23, ground := Ground.guard }], guard := some (23, false) }) (v := ?vn31) rfl (by kernel_rfl) (by kernel_rfl) (by kernel_rfl) (fun _ _ _ h => h) (Or.inl ⟨by rfl, ?hn31⟩) hHeld ?rn31
                        case hn31 => ((intro w hSw; (try dsimp only at hSw); go_simp) <;> with_reducible rfl)
                        (try simp only [Act.put, List.setIfInBounds_toArray, List.set_cons_zero, List.set_cons_succ])
                        refine wpAnyH_take (i := 32) (oi := { dst := some 268, op := Op.indexAddr 31 (Operand.tmp 7) (Operand.tmp 267), type := 0, pos := "law.go:204", after := #[{ on := 31, ground := Ground.data }, { on := 23, ground := Ground.guard }], guard := some (23, false) }) (v := ?vn32) rfl (by kernel_rfl) (by kernel_rfl) (by kernel_rfl) (fun _ _ _ h => h) (Or.inl ⟨by rfl, ?hn32⟩) hHeld ?rn32
                        case hn32 => ((intro w hSw; (try dsimp only at hSw); go_simp) <;> with_reducible rfl)
                        (try simp only [Act.put, List.setIfInBounds_toArray, List.set_cons_zero, List.set_cons_succ])
                        refine wpAnyH_take (i := 33) (oi := { dst := some 269, op := Op.load 30 (Operand.tmp 268), type := 30, pos := "law.go:204", after := #[{ on := 32, ground := Ground.data }, { on := 23, ground := Ground.guard }], guard := some (23, false) }) (v := ?vn33) rfl (by kernel_rfl) (by kernel_rfl) (by kernel_rfl) (fun _ _ _ h => h) (Or.inl ⟨by rfl, ?hn33⟩) hHeld ?rn33
                        case hn33 => ((intro w hSw; (try dsimp only at hSw); go_simp) <;> with_reducible rfl)
                        (try simp only [Act.put, List.setIfInBounds_toArray, List.set_cons_zero, List.set_cons_succ])
                        refine wpAnyH_take (i := 34) (oi := { dst := some 270, op := Op.call { callee := Callee.builtin Builtin.len, args := #[Operand.tmp 269], argTypes := #[30] }, type := 3, pos := "law.go:204", after := #[{ on := 33, ground := Ground.data }, { on := 23, ground := Ground.guard }], guard := some (23, false) }) (v := ?vn34) rfl (by kernel_rfl) (by kernel_rfl) (by kernel_rfl) (fun _ _ _ h => h) (Or.inl ⟨by rfl, ?hn34⟩) hHeld ?rn34
                        case hn34 => ((intro w hSw; (try dsimp only at hSw); go_simp) <;> with_reducible rfl)
                        (try simp only [Act.put, List.setIfInBounds_toArray, List.set_cons_zero, List.set_cons_succ])
                        refine wpAnyH_take (i := 35) (oi := { dst := some 271, op := Op.binOp BinOp.sub 3 (Operand.tmp 270) (Operand.const (Value.int IntKind.i64 1)) 3, type := 3, pos := "law.go:204", after := #[{ on := 34, ground := Ground.data }, { on := 23, ground := Ground.guard }], guard := some (23, false) }) (v := ?vn35) rfl (by kernel_rfl) (by kernel_rfl) (by kernel_rfl) (fun _ _ _ h => h) (Or.inl ⟨by rfl, ?hn35⟩) hHeld ?rn35
                        case hn35 => ((intro w hSw; (try dsimp only at hSw); go_simp) <;> with_reducible rfl)
                        (try simp only [Act.put, List.setIfInBounds_toArray, List.set_cons_zero, List.set_cons_succ])
                        refine wpAnyH_take (i := 36) (oi := { dst := some 272, op := Op.call { callee := Callee.builtin Builtin.max, args := #[Operand.const (Value.int IntKind.i64 0), Operand.tmp 271], argTypes := #[3, 3] }, type := 3, pos := "law.go:204", after := #[{ on := 35, ground := Ground.data }, { on := 23, ground := Ground.guard }], guard := some (23, false) }) (v := ?vn36) rfl (by kernel_rfl) (by kernel_rfl) (by kernel_rfl) (fun _ _ _ h => h) (Or.inl ⟨by rfl, ?hn36⟩) hHeld ?rn36
                        case hn36 => ((intro w hSw; (try dsimp only at hSw); go_simp) <;> with_reducible rfl)
                        (try simp only [Act.put, List.setIfInBounds_toArray, List.set_cons_zero, List.set_cons_succ])
                        refine wpAnyH_ready (rs := [27]) (by kernel_rfl) (by simp) ?_
                        refine AllReadyH.cons (o := { dst := some 263, op := Op.call { callee := Callee.value (Operand.func 9), args := #[Operand.tmp 262], argTypes := #[3] }, type := 35, pos := "law.go:204", after := #[{ on := 26, ground := Ground.data }, { on := 23, ground := Ground.chain }, { on := 23, ground := Ground.guard }], guard := some (23, false) }) rfl (fun K hK => ?_) AllReadyH.nil
                        go_simp
                        refine (CH.out _).mono ?_; rintro e w9 ⟨rfl, hb9⟩
                        go_wp2_with fail
                        refine hK.out _ _ ?_ (fun hHeld2 => ?_)
                        · exact ⟨hHeld.1.trans (hb9.mono hHeld.1.size), (hb9.cell (cell_lt hHeld.2.1)).trans hHeld.2.1, (hb9.cell (cell_lt hHeld.2.2.1)).trans hHeld.2.2.1, (hb9.cell (cell_lt hHeld.2.2.2)).trans hHeld.2.2.2⟩
                        clear hK K hHeld
                        have hHeld := hHeld2
                        clear hHeld2
                        (try simp only [Act.put, List.setIfInBounds_toArray, List.set_cons_zero, List.set_cons_succ])
                        refine wpAnyH_take (i := 28) (oi := { dst := some 264, op := Op.build 60 #[(0, Operand.tmp 263), (1, Operand.const (Value.int IntKind.i64 3))], type := 60, pos := "law.go:204", after := #[{ on := 27, ground := Ground.data }, { on := 23, ground := Ground.guard }], guard := some (23, false) }) (v := ?vn28) rfl (by kernel_rfl) (by kernel_rfl) (by kernel_rfl) (fun _ _ _ h => h) (Or.inl ⟨by rfl, ?hn28⟩) hHeld ?rn28
                        case hn28 => ((intro w hSw; (try dsimp only at hSw); go_simp) <;> with_reducible rfl)
                        (try simp only [Act.put, List.setIfInBounds_toArray, List.set_cons_zero, List.set_cons_succ])
                        refine wpAnyH_ready (rs := [29]) (by kernel_rfl) (by simp) ?_
                        refine AllReadyH.cons (o := { dst := some 265, op := Op.call { callee := Callee.value (Operand.func 14), args := #[Operand.tmp 260, Operand.tmp 264], argTypes := #[24, 60] }, type := 56, pos := "law.go:204", after := #[{ on := 24, ground := Ground.data }, { on := 28, ground := Ground.data }, { on := 27, ground := Ground.chain }, { on := 23, ground := Ground.guard }], guard := some (23, false) }) rfl (fun K hK => ?_) AllReadyH.nil
                        go_simp
                        refine (CR.out _ hHeld.1).mono ?_; rintro e w9 ⟨A9, c9, rfl, hb9⟩
                        go_wp2_with fail
                        refine hK.out _ _ ?_ (fun hHeld2 => ?_)
                        · exact ⟨hHeld.1.trans (hb9.mono hHeld.1.size), (hb9.cell (cell_lt hHeld.2.1)).trans hHeld.2.1, (hb9.cell (cell_lt hHeld.2.2.1)).trans hHeld.2.2.1, (hb9.cell (cell_lt hHeld.2.2.2)).trans hHeld.2.2.2⟩
                        clear hK K hHeld
                        have hHeld := hHeld2
                        clear hHeld2
                        (try simp only [Act.put, List.setIfInBounds_toArray, List.set_cons_zero, List.set_cons_succ])
                        refine wpAnyH_take (i := 30) (oi := { dst := some 266, op := Op.call { callee := Callee.builtin Builtin.len, args := #[Operand.tmp 265], argTypes := #[56] }, type := 3, pos := "law.go:204", after := #[{ on := 29, ground := Ground.data }, { on := 23, ground := Ground.guard }], guard := some (23, false) }) (v := ?vn30) rfl (by kernel_rfl) (by kernel_rfl) (by kernel_rfl) (fun _ _ _ h => h) (Or.inl ⟨by rfl, ?hn30⟩) hHeld ?rn30
                        case hn30 => ((intro w hSw; (try dsimp only at hSw); go_simp) <;> with_reducible rfl)
                        (try simp only [Act.put, List.setIfInBounds_toArray, List.set_cons_zero, List.set_cons_succ])
                        refine wpAnyH_take (i := 37) (oi := { dst := some 273, op := Op.binOp BinOp.neq 3 (Operand.tmp 266) (Operand.tmp 272) 3, type := 4, pos := "law.go:204", after := #[{ on := 30, ground := Ground.data }, { on := 36, ground := Ground.data }, { on := 23, ground := Ground.guard }], guard := some (23, false) }) (v := ?vn37) rfl (by kernel_rfl) (by kernel_rfl) (by kernel_rfl) (fun _ _ _ h => h) (Or.inl ⟨by rfl, ?hn37⟩) hHeld ?rn37
                        case hn37 => ((intro w hSw; (try dsimp only at hSw); go_simp) <;> with_reducible rfl)
                        (try simp only [Act.put, List.setIfInBounds_toArray, List.set_cons_zero, List.set_cons_succ])
                        refine wpAnyH_take (i := 38) (oi := { dst := some 274, op := Op.pick (Operand.tmp 259) (Operand.const (Value.bool true)) (Operand.tmp 273), type := 4, pos := "law.go:204", after := #[{ on := 23, ground := Ground.data }, { on := 37, ground := Ground.data }], guard := none }) (v := ?vn38) rfl (by kernel_rfl) (by kernel_rfl) (by kernel_rfl) (fun _ _ _ h => h) (Or.inl ⟨by rfl, ?hn38⟩) hHeld ?rn38
                        case hn38 => ((intro w hSw; (try dsimp only at hSw); go_simp) <;> with_reducible rfl)
                        (try simp only [Act.put, List.setIfInBounds_toArray, List.set_cons_zero, List.set_cons_succ])
                        refine wpAnyH_done (by kernel_rfl) ?_ _
                        go_wp2
                        go_meet
                        exact ⟨rfl, rfl, hHeld.1⟩
                      case rest => as_aux_lemma =>
                        obtain ⟨rfl, rfl, hbf⟩ := hcut
                        have HTG := Lib.hid (HTF.out.below hbf)
                        have HLG := Lib.hid (HLF.out.below hbf)
                        clear hbf HTF HLF x0 x1 cv CR e1
                        go_wp2_with fail
                        go_roundw
                        case rel => exact ⟨j + 1, _, _, _, by omega, by go_num, HTG.out, HLG.out⟩
                        case measure => simp [intOf] <;> omega

                    | cons k0 t =>
                      obtain ⟨m, hm⟩ : ∃ m, t.length = m := ⟨_, rfl⟩
                      obtain ⟨L2, hL2⟩ : ∃ L2, (k0 :: t).length = L2 := ⟨_, rfl⟩
                      have hLm : L2 = m + 1 := by rw [← hL2, ← hm]; rfl
                      rw [hL2] at HV2 hlen
                      obtain ⟨g2, off2, rfl, y0, y1⟩ := hc2 0 k0 rfl
                      rw [Nat.zero_mul, Nat.add_zero] at y0 y1
                      have hhd2 : (inRow (key3 h) B2.N).length = m := by rw [hhd, hL2, hLm]; rfl
                      have HHD := Lib.hid hhd2
                      have hL1 : 0 < L2 := by omega
                      have hL1i : (0 : Int) < (L2 : Int) := by omega
                      have m0 : (0 : Int) ≤ (m : Int) := by omega
                      have t2 : decide ((0 : Int) < (L2 : Int)) = true := decide_eq_true (by omega)
                      have t3 : decide (0 < L2) = true := decide_eq_true hL1
                      have ws : IntKind.i64.wrap ((L2 : Int) - 1) = (m : Int) := by simp [IntKind.wrap, IntKind.bits, IntKind.signed, Int.bmod]; omega
                      have mx : max (0 : Int) (m : Int) = (m : Int) := by omega
                      have HY := Lib.hid (And.intro y0 y1)
                      clear hL2 hLm hm hc2 hhd hhd2 y0 y1
                      have HHR : Hid (Row wc (mb h) 82 [.int .u32 (11 + (k0 : Int)), .int .u32 1]) := Lib.hid (by have := HT.out.gr h hh3; rw [HLL.out] at this; exact this)
                      go_upto_region 41 with (first
                        | (go_at_call 9; refine (CH.out _).mono ?_; rintro e w9 ⟨rfl, hb9⟩; have HT9 := Lib.hid (HT.out.below hb9); have HL9 := Lib.hid (HL.out.below hb9); have HHR9 := Lib.hid (HHR.out.below hb9 HHR.out.lt); have HY9 := Lib.hid (And.intro ((hb9.cell (cell_lt HY.out.1)).trans HY.out.1) ((hb9.cell (cell_lt HY.out.2)).trans HY.out.2)); clear hb9)
                        | (go_at_call 13; refine (holder_c lp mp bp 3 f B2 ((h : Int) + 1) 1 (mb h) (11 + (k0 : Int)) 1 _ HT9.out.lk HW3.out rfl HFH.out HHR9.out).mono ?_; rintro e w10 ⟨rfl, hb10⟩; have HT10 := Lib.hid (HT9.out.below hb10); have HL10 := Lib.hid (HL9.out.below hb10); have HY10 := Lib.hid (And.intro ((hb10.cell (cell_lt HY9.out.1)).trans HY9.out.1) ((hb10.cell (cell_lt HY9.out.2)).trans HY9.out.2)); clear hb10))
                      clear HT HL HT9 HL9 HHR HHR9
                      have hA := (Below.refl w10.heap.size w10).alloc (Nat.le_refl _) (.cells #[.int .u32 (11 + (k0 : Int)), .int .u32 1] 35)
                      have HTF := Lib.hid (HT10.out.below hA)
                      have HLF := Lib.hid (HL10.out.below hA)
                      have y0 := (hA.cell (cell_lt HY10.out.1)).trans HY10.out.1
                      have y1 := (hA.cell (cell_lt HY10.out.2)).trans HY10.out.2
                      have hX := Row.new w10 35 [.int .u32 (11 + (k0 : Int)), .int .u32 1]
                      change Row (w10.alloc (.cells #[.int .u32 (11 + (k0 : Int)), .int .u32 1] 35)) _ _ _ at hX
                      have x0 := hX.cell 0
                      have x1 := hX.cell 1
                      dsimp only [List.getElem?_cons_zero, List.getElem?_cons_succ] at x0 x1
                      have cv := HLF.out.cell hh3
                      rw [HV2.out] at cv
                      clear hX hA HT10 HL10
                      go_upto_region 42 with fail
                      generalize w10.alloc (.cells #[.int .u32 (11 + (k0 : Int)), .int .u32 1] 35) = wf at *
                      generalize w10.heap.size = xb at *
                      have CR := Lib.hid (fun w' (hw' : Below wf.heap.size wf w') => rowLen_c bp B2 (key3 h) m w' (HTF.out.below hw').lk.book HKO.out HNL.out HHD.out)
                      unfold key3 at CR
                      have e1 := fun w => run_neq_handle (11 + (k0 : Int)) 1 (11 + (k0 : Int)) 1 w
                      rw [sameH_iff.2 ⟨rfl, rfl⟩] at e1
                      go_cut [10, 274] (fun v10 v274 wx => v10 = .int .i64 h ∧ v274 = .bool false ∧ Below wf.heap.size wf wx)
                      case first => as_aux_lemma =>
                        refine wp_region_held_drew (S := (fun w' => Below wf.heap.size wf w' ∧ w'.cell? ⟨xb, 0, none⟩ = some (.int .u32 (11 + (k0 : Int))) ∧ w'.cell? ⟨xb, 1, none⟩ = some (.int .u32 1) ∧ w'.cell? ⟨lb, h, none⟩ = some (.slice (some ⟨g2, off2, none⟩) L2 c2) ∧ w'.cell? ⟨g2, off2, none⟩ = some (.int .u32 (11 + (k0 : Int))) ∧ w'.cell? ⟨g2, off2 + 1, none⟩ = some (.int .u32 1))) (by kernel_rfl) ?_ (fun hHeld => ?_)
                        · exact ⟨(Below.refl _ _).drew, x0, x1, cv, y0, y1⟩
                        refine wpAnyH_take (i := 0) (oi := { dst := some 236, op := Op.move (Operand.tmp 20), type := 27, pos := "law.go:204", after := #[], guard := none }) (v := ?vc0) rfl (by kernel_rfl) (by kernel_rfl) (by kernel_rfl) (fun _ _ _ h => h) (Or.inl ⟨by rfl, ?hc0⟩) hHeld ?rc0
                        case hc0 => ((intro w hSw; (try dsimp only at hSw); go_simp) <;> with_reducible rfl)
                        (try simp only [Act.put, List.setIfInBounds_toArray, List.set_cons_zero, List.set_cons_succ])
                        refine wpAnyH_take (i := 1) (oi := { dst := some 237, op := Op.binOp BinOp.neq 27 (Operand.tmp 236) (Operand.const (Value.int IntKind.i64 0)) 27, type := 4, pos := "law.go:204", after := #[{ on := 0, ground := Ground.data }], guard := none }) (v := ?vc1) rfl (by kernel_rfl) (by kernel_rfl) (by kernel_rfl) (fun _ _ _ h => h) (Or.inl ⟨by rfl, ?hc1⟩) hHeld ?rc1
                        case hc1 => ((intro w hSw; (try dsimp only at hSw); go_simp) <;> with_reducible rfl)
                        (try simp only [Act.put, List.setIfInBounds_toArray, List.set_cons_zero, List.set_cons_succ])
                        refine wpAnyH_take (i := 2) (oi := { dst := some 238, op := Op.move (Operand.tmp 237), type := 4, pos := "law.go:204", after := #[{ on := 1, ground := Ground.data }], guard := none }) (v := ?vc2) rfl (by kernel_rfl) (by kernel_rfl) (by kernel_rfl) (fun _ _ _ h => h) (Or.inl ⟨by rfl, ?hc2⟩) hHeld ?rc2
                        case hc2 => ((intro w hSw; (try dsimp only at hSw); go_simp) <;> with_reducible rfl)
                        (try simp only [Act.put, List.setIfInBounds_toArray, List.set_cons_zero, List.set_cons_succ])
                        refine wpAnyH_take (i := 3) (oi := { dst := some 239, op := Op.move (Operand.tmp 21), type := 4, pos := "law.go:204", after := #[{ on := 2, ground := Ground.guard }], guard := some (2, false) }) (v := ?vc3) rfl (by kernel_rfl) (by kernel_rfl) (by kernel_rfl) (fun _ _ _ h => h) (Or.inl ⟨by rfl, ?hc3⟩) hHeld ?rc3
                        case hc3 => ((intro w hSw; (try dsimp only at hSw); go_simp) <;> with_reducible rfl)
                        (try simp only [Act.put, List.setIfInBounds_toArray, List.set_cons_zero, List.set_cons_succ])
                        refine wpAnyH_take (i := 4) (oi := { dst := some 240, op := Op.move (Operand.tmp 239), type := 4, pos := "law.go:204", after := #[{ on := 3, ground := Ground.data }, { on := 2, ground := Ground.chain }, { on := 2, ground := Ground.guard }], guard := some (2, false) }) (v := ?vc4) rfl (by kernel_rfl) (by kernel_rfl) (by kernel_rfl) (fun _ _ _ h => h) (Or.inl ⟨by rfl, ?hc4⟩) hHeld ?rc4
                        case hc4 => ((intro w hSw; (try dsimp only at hSw); go_simp) <;> with_reducible rfl)
                        (try simp only [Act.put, List.setIfInBounds_toArray, List.set_cons_zero, List.set_cons_succ])
                        refine wpAnyH_take (i := 5) (oi := { dst := some 241, op := Op.load 35 (Operand.tmp 19), type := 35, pos := "law.go:204", after := #[{ on := 4, ground := Ground.guard }], guard := some (4, true) }) (v := ?vc5) rfl (by kernel_rfl) (by kernel_rfl) (by kernel_rfl) (fun _ _ _ h => h) (Or.inl ⟨by rfl, ?hc5⟩) hHeld ?rc5
                        case hc5 => ((intro w hSw; (try dsimp only at hSw); go_simp) <;> with_reducible rfl)
                        (try simp only [Act.put, List.setIfInBounds_toArray, List.set_cons_zero, List.set_cons_succ])
                        refine wpAnyH_take (i := 6) (oi := { dst := some 242, op := Op.move (Operand.tmp 10), type := 3, pos := "law.go:204", after := #[{ on := 4, ground := Ground.guard }], guard := some (4, true) }) (v := ?vc6) rfl (by kernel_rfl) (by kernel_rfl) (by kernel_rfl) (fun _ _ _ h => h) (Or.inl ⟨by rfl, ?hc6⟩) hHeld ?rc6
                        case hc6 => ((intro w hSw; (try dsimp only at hSw); go_simp) <;> with_reducible rfl)
                        (try simp only [Act.put, List.setIfInBounds_toArray, List.set_cons_zero, List.set_cons_succ])
                        refine wpAnyH_take (i := 7) (oi := { dst := some 243, op := Op.indexAddr 31 (Operand.tmp 7) (Operand.tmp 242), type := 0, pos := "law.go:204", after := #[{ on := 6, ground := Ground.data }, { on := 4, ground := Ground.guard }], guard := some (4, true) }) (v := ?vc7) rfl (by kernel_rfl) (by kernel_rfl) (by kernel_rfl) (fun _ _ _ h => h) (Or.inl ⟨by rfl, ?hc7⟩) hHeld ?rc7
                        case hc7 => ((intro w hSw; (try dsimp only at hSw); go_simp) <;> with_reducible rfl)
                        (try simp only [Act.put, List.setIfInBounds_toArray, List.set_cons_zero, List.set_cons_succ])
                        refine wpAnyH_take (i := 8) (oi := { dst := some 244, op := Op.load 30 (Operand.tmp 243), type := 30, pos := "law.go:204", after := #[{ on := 7, ground := Ground.data }, { on := 4, ground := Ground.guard }], guard := some (4, true) }) (v := ?vc8) rfl (by kernel_rfl) (by kernel_rfl) (by kernel_rfl) (fun _ _ _ h => h) (Or.inl ⟨by rfl, ?hc8⟩) hHeld ?rc8
                        case hc8 => ((intro w hSw; (try dsimp only at hSw); go_simp) <;> with_reducible rfl)
                        (try simp only [Act.put, List.setIfInBounds_toArray, List.set_cons_zero, List.set_cons_succ])
                        refine wpAnyH_take (i := 9) (oi := { dst := some 245, op := Op.indexAddr 30 (Operand.tmp 244) (Operand.const (Value.int IntKind.i64 0)), type := 0, pos := "law.go:204", after := #[{ on := 8, ground := Ground.data }, { on := 4, ground := Ground.guard }], guard := some (4, true) }) (v := ?vc9) rfl (by kernel_rfl) (by kernel_rfl) (by kernel_rfl) (fun _ _ _ h => h) (Or.inl ⟨by rfl, ?hc9⟩) hHeld ?rc9
                        case hc9 => ((intro w hSw; (try dsimp only at hSw); go_simp) <;> with_reducible rfl)
                        (try simp only [Act.put, List.setIfInBounds_toArray, List.set_cons_zero, List.set_cons_succ])
                        refine wpAnyH_take (i := 10) (oi := { dst := some 246, op := Op.load 35 (Operand.tmp 245), type := 35, pos := "law.go:204", after := #[{ on := 9, ground := Ground.data }, { on := 4, ground := Ground.guard }], guard := some (4, true) }) (v := ?vc10) rfl (by kernel_rfl) (by kernel_rfl) (by kernel_rfl) (fun _ _ _ h => h) (Or.inl ⟨by rfl, ?hc10⟩) hHeld ?rc10
                        case hc10 => ((intro w hSw; (try dsimp only at hSw); go_simp) <;> with_reducible rfl)
                        (try simp only [Act.put, List.setIfInBounds_toArray, List.set_cons_zero, List.set_cons_succ])
                        refine wpAnyH_take (i := 11) (oi := { dst := some 247, op := Op.binOp BinOp.neq 35 (Operand.tmp 241) (Operand.tmp 246) 35, type := 4, pos := "law.go:204", after := #[{ on := 5, ground := Ground.data }, { on := 10, ground := Ground.data }, { on := 4, ground := Ground.guard }], guard := some (4, true) }) (v := ?vc11) rfl (by kernel_rfl) (by kernel_rfl) (by kernel_rfl) (fun _ _ _ h => h) (Or.inl ⟨by rfl, ?hc11⟩) hHeld ?rc11
                        case hc11 => ((intro w hSw; (try dsimp only at hSw); go_simp) <;> with_reducible rfl)
                        (try simp only [Act.put, List.setIfInBounds_toArray, List.set_cons_zero, List.set_cons_succ])
                        refine wpAnyH_take (i := 12) (oi := { dst := some 248, op := Op.pick (Operand.tmp 240) (Operand.tmp 247) (Operand.const (Value.bool false)), type := 4, pos := "law.go:204", after := #[{ on := 4, ground := Ground.data }, { on := 11, ground := Ground.data }, { on := 2, ground := Ground.guard }], guard := some (2, false) }) (v := ?vc12) rfl (by kernel_rfl) (by kernel_rfl) (by kernel_rfl) (fun _ _ _ h => h) (Or.inl ⟨by rfl, ?hc12⟩) hHeld ?rc12
                        case hc12 => ((intro w hSw; (try dsimp only at hSw); go_simp) <;> with_reducible rfl)
                        (try simp only [Act.put, List.setIfInBounds_toArray, List.set_cons_zero, List.set_cons_succ])
                        refine wpAnyH_take (i := 13) (oi := { dst := some 249, op := Op.pick (Operand.tmp 238) (Operand.const (Value.bool true)) (Operand.tmp 248), type := 4, pos := "law.go:204", after := #[{ on := 2, ground := Ground.data }, { on := 12, ground := Ground.data }], guard := none }) (v := ?vc13) rfl (by kernel_rfl) (by kernel_rfl) (by kernel_rfl) (fun _ _ _ h => h) (Or.inl ⟨by rfl, ?hc13⟩) hHeld ?rc13
                        case hc13 => ((intro w hSw; (try dsimp only at hSw); go_simp) <;> with_reducible rfl)
                        (try simp only [Act.put, List.setIfInBounds_toArray, List.set_cons_zero, List.set_cons_succ])
                        refine wpAnyH_take (i := 14) (oi := { dst := some 250, op := Op.move (Operand.tmp 249), type := 4, pos := "law.go:204", after := #[{ on := 13, ground := Ground.data }, { on := 4, ground := Ground.chain }], guard := none }) (v := ?vc14) rfl (by kernel_rfl) (by kernel_rfl) (by kernel_rfl) (fun _ _ _ h => h) (Or.inl ⟨by rfl, ?hc14⟩) hHeld ?rc14
                        case hc14 => ((intro w hSw; (try dsimp only at hSw); go_simp) <;> with_reducible rfl)
                        (try simp only [Act.put, List.setIfInBounds_toArray, List.set_cons_zero, List.set_cons_succ])
                        refine wpAnyH_take (i := 15) (oi := { dst := some 251, op := Op.move (Operand.tmp 21), type := 4, pos := "law.go:204", after := #[{ on := 14, ground := Ground.guard }], guard := some (14, false) }) (v := ?vc15) rfl (by kernel_rfl) (by kernel_rfl) (by kernel_rfl) (fun _ _ _ h => h) (Or.inl ⟨by rfl, ?hc15⟩) hHeld ?rc15
                        case hc15 => ((intro w hSw; (try dsimp only at hSw); go_simp) <;> with_reducible rfl)
                        (try simp only [Act.put, List.setIfInBounds_toArray, List.set_cons_zero, List.set_cons_succ])
                        refine wpAnyH_take (i := 16) (oi := { dst := some 252, op := Op.unOp UnOp.not 4 (Operand.tmp 251), type := 4, pos := "law.go:204", after := #[{ on := 15, ground := Ground.data }, { on := 14, ground := Ground.guard }], guard := some (14, false) }) (v := ?vc16) rfl (by kernel_rfl) (by kernel_rfl) (by kernel_rfl) (fun _ _ _ h => h) (Or.inl ⟨by rfl, ?hc16⟩) hHeld ?rc16
                        case hc16 => ((intro w hSw; (try dsimp only at hSw); go_simp) <;> with_reducible rfl)
                        (try simp only [Act.put, List.setIfInBounds_toArray, List.set_cons_zero, List.set_cons_succ])
                        refine wpAnyH_take (i := 17) (oi := { dst := some 253, op := Op.move (Operand.tmp 252), type := 4, pos := "law.go:204", after := #[{ on := 16, ground := Ground.data }, { on := 14, ground := Ground.chain }, { on := 14, ground := Ground.guard }], guard := some (14, false) }) (v := ?vc17) rfl (by kernel_rfl) (by kernel_rfl) (by kernel_rfl) (fun _ _ _ h => h) (Or.inl ⟨by rfl, ?hc17⟩) hHeld ?rc17
                        case hc17 => ((intro w hSw; (try dsimp only at hSw); go_simp) <;> with_reducible rfl)
                        (try simp only [Act.put, List.setIfInBounds_toArray, List.set_cons_zero, List.set_cons_succ])
                        refine wpAnyH_take (i := 18) (oi := { dst := some 254, op := Op.load 35 (Operand.tmp 19), type := 35, pos := "law.go:204", after := #[{ on := 17, ground := Ground.guard }], guard := some (17, true) }) (v := undef) rfl (by kernel_rfl) (by kernel_rfl) (by kernel_rfl) (fun _ _ _ h => h) (Or.inr ⟨by rfl, rfl⟩) hHeld ?_
                        (try simp only [Act.put, List.setIfInBounds_toArray, List.set_cons_zero, List.set_cons_succ])
                        refine wpAnyH_take (i := 19) (oi := { dst := some 255, op := Op.build 35 #[], type := 35, pos := "law.go:204", after := #[{ on := 17, ground := Ground.guard }], guard := some (17, true) }) (v := undef) rfl (by kernel_rfl) (by kernel_rfl) (by kernel_rfl) (fun _ _ _ h => h) (Or.inr ⟨by rfl, rfl⟩) hHeld ?_
                        (try simp only [Act.put, List.setIfInBounds_toArray, List.set_cons_zero, List.set_cons_succ])
                        refine wpAnyH_take (i := 20) (oi := { dst := some 256, op := Op.binOp BinOp.neq 35 (Operand.tmp 254) (Operand.tmp 255) 35, type := 4, pos := "law.go:204", after := #[{ on := 18, ground := Ground.data }, { on := 19, ground := Ground.data }, { on := 17, ground := Ground.guard }], guard := some (17, true) }) (v := undef) rfl (by kernel_rfl) (by kernel_rfl) (by kernel_rfl) (fun _ _ _ h => h) (Or.inr ⟨by rfl, rfl⟩) hHeld ?_
                        (try simp only [Act.put, List.setIfInBounds_toArray, List.set_cons_zero, List.set_cons_succ])
                        refine wpAnyH_take (i := 21) (oi := { dst := some 257, op := Op.pick (Operand.tmp 253) (Operand.tmp 256) (Operand.const (Value.bool false)), type := 4, pos := "law.go:204", after := #[{ on := 17, ground := Ground.data }, { on := 20, ground := Ground.data }, { on := 14, ground := Ground.guard }], guard := some (14, false) }) (v := ?vc21) rfl (by kernel_rfl) (by kernel_rfl) (by kernel_rfl) (fun _ _ _ h => h) (Or.inl ⟨by rfl, ?hc21⟩) hHeld ?rc21
                        case hc21 => ((intro w hSw; (try dsimp only at hSw); go_simp) <;> with_reducible rfl)
                        (try simp only [Act.put, List.setIfInBounds_toArray, List.set_cons_zero, List.set_cons_succ])
                        refine wpAnyH_take (i := 22) (oi := { dst := some 258, op := Op.pick (Operand.tmp 250) (Operand.const (Value.bool true)) (Operand.tmp 257), type := 4, pos := "law.go:204", after := #[{ on := 14, ground := Ground.data }, { on := 21, ground := Ground.data }], guard := none }) (v := ?vc22) rfl (by kernel_rfl) (by kernel_rfl) (by kernel_rfl) (fun _ _ _ h => h) (Or.inl ⟨by rfl, ?hc22⟩) hHeld ?rc22
                        case hc22 => ((intro w hSw; (try dsimp only at hSw); go_simp) <;> with_reducible rfl)
                        (try simp only [Act.put, List.setIfInBounds_toArray, List.set_cons_zero, List.set_cons_succ])
                        refine wpAnyH_take (i := 23) (oi := { dst := some 259, op := Op.move (Operand.tmp 258), type := 4, pos := "law.go:204", after := #[{ on := 22, ground := Ground.data }, { on := 17, ground := Ground.chain }], guard := none }) (v := ?vc23) rfl (by kernel_rfl) (by kernel_rfl) (by kernel_rfl) (fun _ _ _ h => h) (Or.inl ⟨by rfl, ?hc23⟩) hHeld ?rc23
                        case hc23 => ((intro w hSw; (try dsimp only at hSw); go_simp) <;> with_reducible rfl)
                        (try simp only [Act.put, List.setIfInBounds_toArray, List.set_cons_zero, List.set_cons_succ])
                        refine wpAnyH_take (i := 24) (oi := { dst := some 260, op := Op.move (Operand.tmp 4), type := 24, pos := "law.go:204", after := #[{ on := 23, ground := Ground.guard }], guard := some (23, false) }) (v := ?vc24) rfl (by kernel_rfl) (by kernel_rfl) (by kernel_rfl) (fun _ _ _ h => h) (Or.inl ⟨by rfl, ?hc24⟩) hHeld ?rc24
                        case hc24 => ((intro w hSw; (try dsimp only at hSw); go_simp) <;> with_reducible rfl)
                        (try simp only [Act.put, List.setIfInBounds_toArray, List.set_cons_zero, List.set_cons_succ])
                        refine wpAnyH_take (i := 25) (oi := { dst := some 261, op := Op.move (Operand.tmp 10), type := 3, pos := "law.go:204", after := #[{ on := 23, ground := Ground.guard }], guard := some (23, false) }) (v := ?vc25) rfl (by kernel_rfl) (by kernel_rfl) (by kernel_rfl) (fun _ _ _ h => h) (Or.inl ⟨by rfl, ?hc25⟩) hHeld ?rc25
                        case hc25 => ((intro w hSw; (try dsimp only at hSw); go_simp) <;> with_reducible rfl)
                        (try simp only [Act.put, List.setIfInBounds_toArray, List.set_cons_zero, List.set_cons_succ])
                        refine wpAnyH_take (i := 26) (oi := { dst := some 262, op := Op.binOp BinOp.add 3 (Operand.tmp 261) (Operand.const (Value.int IntKind.i64 1)) 3, type := 3, pos := "law.go:204", after := #[{ on := 25, ground := Ground.data }, { on := 23, ground := Ground.guard }], guard := some (23, false) }) (v := ?vc26) rfl (by kernel_rfl) (by kernel_rfl) (by kernel_rfl) (fun _ _ _ h => h) (Or.inl ⟨by rfl, ?hc26⟩) hHeld ?rc26
                        case hc26 => ((intro w hSw; (try dsimp only at hSw); go_simp) <;> with_reducible rfl)
                        (try simp only [Act.put, List.setIfInBounds_toArray, List.set_cons_zero, List.set_cons_succ])
                        refine wpAnyH_take (i := 31) (oi := { dst := some 267, op := Op.move (Operand.tmp 10), type := 3, pos := "law.go:204", after := #[{ on := 23, ground := Ground.guard }], guard := some (23, false) }) (v := ?vc31) rfl (by kernel_rfl) (by kernel_rfl) (by kernel_rfl) (fun _ _ _ h => h) (Or.inl ⟨by rfl, ?hc31⟩) hHeld ?rc31
                        case hc31 => ((intro w hSw; (try dsimp only at hSw); go_simp) <;> with_reducible rfl)
                        (try simp only [Act.put, List.setIfInBounds_toArray, List.set_cons_zero, List.set_cons_succ])
                        refine wpAnyH_take (i := 32) (oi := { dst := some 268, op := Op.indexAddr 31 (Operand.tmp 7) (Operand.tmp 267), type := 0, pos := "law.go:204", after := #[{ on := 31, ground := Ground.data }, { on := 23, ground := Ground.guard }], guard := some (23, false) }) (v := ?vc32) rfl (by kernel_rfl) (by kernel_rfl) (by kernel_rfl) (fun _ _ _ h => h) (Or.inl ⟨by rfl, ?hc32⟩) hHeld ?rc32
                        case hc32 => ((intro w hSw; (try dsimp only at hSw); go_simp) <;> with_reducible rfl)
                        (try simp only [Act.put, List.setIfInBounds_toArray, List.set_cons_zero, List.set_cons_succ])
                        refine wpAnyH_take (i := 33) (oi := { dst := some 269, op := Op.load 30 (Operand.tmp 268), type := 30, pos := "law.go:204", after := #[{ on := 32, ground := Ground.data }, { on := 23, ground := Ground.guard }], guard := some (23, false) }) (v := ?vc33) rfl (by kernel_rfl) (by kernel_rfl) (by kernel_rfl) (fun _ _ _ h => h) (Or.inl ⟨by rfl, ?hc33⟩) hHeld ?rc33
                        case hc33 => ((intro w hSw; (try dsimp only at hSw); go_simp) <;> with_reducible rfl)
                        (try simp only [Act.put, List.setIfInBounds_toArray, List.set_cons_zero, List.set_cons_succ])
                        refine wpAnyH_take (i := 34) (oi := { dst := some 270, op := Op.call { callee := Callee.builtin Builtin.len, args := #[Operand.tmp 269], argTypes := #[30] }, type := 3, pos := "law.go:204", after := #[{ on := 33, ground := Ground.data }, { on := 23, ground := Ground.guard }], guard := some (23, false) }) (v := ?vc34) rfl (by kernel_rfl) (by kernel_rfl) (by kernel_rfl) (fun _ _ _ h => h) (Or.inl ⟨by rfl, ?hc34⟩) hHeld ?rc34
                        case hc34 => ((intro w hSw; (try dsimp only at hSw); go_simp) <;> with_reducible rfl)
                        (try simp only [Act.put, List.setIfInBounds_toArray, List.set_cons_zero, List.set_cons_succ])
                        refine wpAnyH_take (i := 35) (oi := { dst := some 271, op := Op.binOp BinOp.sub 3 (Operand.tmp 270) (Operand.const (Value.int IntKind.i64 1)) 3, type := 3, pos := "law.go:204", after := #[{ on := 34, ground := Ground.data }, { on := 23, ground := Ground.guard }], guard := some (23, false) }) (v := ?vc35) rfl (by kernel_rfl) (by kernel_rfl) (by kernel_rfl) (fun _ _ _ h => h) (Or.inl ⟨by rfl, ?hc35⟩) hHeld ?rc35
                        case hc35 => ((intro w hSw; (try dsimp only at hSw); go_simp) <;> with_reducible rfl)
                        (try simp only [Act.put, List.setIfInBounds_toArray, List.set_cons_zero, List.set_cons_succ])
                        refine wpAnyH_take (i := 36) (oi := { dst := some 272, op := Op.call { callee := Callee.builtin Builtin.max, args := #[Operand.const (Value.int IntKind.i64 0), Operand.tmp 271], argTypes := #[3, 3] }, type := 3, pos := "law.go:204", after := #[{ on := 35, ground := Ground.data }, { on := 23, ground := Ground.guard }], guard := some (23, false) }) (v := ?vc36) rfl (by kernel_rfl) (by kernel_rfl) (by kernel_rfl) (fun _ _ _ h => h) (Or.inl ⟨by rfl, ?hc36⟩) hHeld ?rc36
                        case hc36 => ((intro w hSw; (try dsimp only at hSw); go_simp) <;> with_reducible rfl)
                        (try simp only [Act.put, List.setIfInBounds_toArray, List.set_cons_zero, List.set_cons_succ])
                        refine wpAnyH_ready (rs := [27]) (by kernel_rfl) (by simp) ?_
                        refine AllReadyH.cons (o := { dst := some 263, op := Op.call { callee := Callee.value (Operand.func 9), args := #[Operand.tmp 262], argTypes := #[3] }, type := 35, pos := "law.go:204", after := #[{ on := 26, ground := Ground.data }, { on := 23, ground := Ground.chain }, { on := 23, ground := Ground.guard }], guard := some (23, false) }) rfl (fun K hK => ?_) AllReadyH.nil
                        go_simp
                        refine (CH.out _).mono ?_; rintro e w9 ⟨rfl, hb9⟩
                        go_wp2_with fail
                        refine hK.out _ _ ?_ (fun hHeld2 => ?_)
                        · exact ⟨hHeld.1.trans (hb9.mono hHeld.1.size), (hb9.cell (cell_lt hHeld.2.1)).trans hHeld.2.1, (hb9.cell (cell_lt hHeld.2.2.1)).trans hHeld.2.2.1, (hb9.cell (cell_lt hHeld.2.2.2.1)).trans hHeld.2.2.2.1, (hb9.cell (cell_lt hHeld.2.2.2.2.1)).trans hHeld.2.2.2.2.1, (hb9.cell (cell_lt hHeld.2.2.2.2.2)).trans hHeld.2.2.2.2.2⟩
                        clear hK K hHeld
                        have hHeld := hHeld2
                        clear hHeld2
                        (try simp only [Act.put, List.setIfInBounds_toArray, List.set_cons_zero, List.set_cons_succ])
                        refine wpAnyH_take (i := 28) (oi := { dst := some 264, op := Op.build 60 #[(0, Operand.tmp 263), (1, Operand.const (Value.int IntKind.i64 3))], type := 60, pos := "law.go:204", after := #[{ on := 27, ground := Ground.data }, { on := 23, ground := Ground.guard }], guard := some (23, false) }) (v := ?vc28) rfl (by kernel_rfl) (by kernel_rfl) (by kernel_rfl) (fun _ _ _ h => h) (Or.inl ⟨by rfl, ?hc28⟩) hHeld ?rc28
                        case hc28 => ((intro w hSw; (try dsimp only at hSw); go_simp) <;> with_reducible rfl)
                        (try simp only [Act.put, List.setIfInBounds_toArray, List.set_cons_zero, List.set_cons_succ])
                        refine wpAnyH_ready (rs := [29]) (by kernel_rfl) (by simp) ?_
                        refine AllReadyH.cons (o := { dst := some 265, op := Op.call { callee := Callee.value (Operand.func 14), args := #[Operand.tmp 260, Operand.tmp 264], argTypes := #[24, 60] }, type := 56, pos := "law.go:204", after := #[{ on := 24, ground := Ground.data }, { on := 28, ground := Ground.data }, { on := 27, ground := Ground.chain }, { on := 23, ground := Ground.guard }], guard := some (23, false) }) rfl (fun K hK => ?_) AllReadyH.nil
                        go_simp
                        refine (CR.out _ hHeld.1).mono ?_; rintro e w9 ⟨A9, c9, rfl, hb9⟩
                        go_wp2_with fail
                        refine hK.out _ _ ?_ (fun hHeld2 => ?_)
                        · exact ⟨hHeld.1.trans (hb9.mono hHeld.1.size), (hb9.cell (cell_lt hHeld.2.1)).trans hHeld.2.1, (hb9.cell (cell_lt hHeld.2.2.1)).trans hHeld.2.2.1, (hb9.cell (cell_lt hHeld.2.2.2.1)).trans hHeld.2.2.2.1, (hb9.cell (cell_lt hHeld.2.2.2.2.1)).trans hHeld.2.2.2.2.1, (hb9.cell (cell_lt hHeld.2.2.2.2.2)).trans hHeld.2.2.2.2.2⟩
                        clear hK K hHeld
                        have hHeld := hHeld2
                        clear hHeld2
                        (try simp only [Act.put, List.setIfInBounds_toArray, List.set_cons_zero, List.set_cons_succ])
                        refine wpAnyH_take (i := 30) (oi := { dst := some 266, op := Op.call { callee := Callee.builtin Builtin.len, args := #[Operand.tmp 265], argTypes := #[56] }, type := 3, pos := "law.go:204", after := #[{ on := 29, ground := Ground.data }, { on := 23, ground := Ground.guard }], guard := some (23, false) }) (v := ?vc30) rfl (by kernel_rfl) (by kernel_rfl) (by kernel_rfl) (fun _ _ _ h => h) (Or.inl ⟨by rfl, ?hc30⟩) hHeld ?rc30
                        case hc30 => ((intro w hSw; (try dsimp only at hSw); go_simp) <;> with_reducible rfl)
                        (try simp only [Act.put, List.setIfInBounds_toArray, List.set_cons_zero, List.set_cons_succ])
                        refine wpAnyH_take (i := 37) (oi := { dst := some 273, op := Op.binOp BinOp.neq 3 (Operand.tmp 266) (Operand.tmp 272) 3, type := 4, pos := "law.go:204", after := #[{ on := 30, ground := Ground.data }, { on := 36, ground := Ground.data }, { on := 23, ground := Ground.guard }], guard := some (23, false) }) (v := ?vc37) rfl (by kernel_rfl) (by kernel_rfl) (by kernel_rfl) (fun _ _ _ h => h) (Or.inl ⟨by rfl, ?hc37⟩) hHeld ?rc37
                        case hc37 => ((intro w hSw; (try dsimp only at hSw); go_simp) <;> with_reducible rfl)
                        (try simp only [Act.put, List.setIfInBounds_toArray, List.set_cons_zero, List.set_cons_succ])
                        refine wpAnyH_take (i := 38) (oi := { dst := some 274, op := Op.pick (Operand.tmp 259) (Operand.const (Value.bool true)) (Operand.tmp 273), type := 4, pos := "law.go:204", after := #[{ on := 23, ground := Ground.data }, { on := 37, ground := Ground.data }], guard := none }) (v := ?vc38) rfl (by kernel_rfl) (by kernel_rfl) (by kernel_rfl) (fun _ _ _ h => h) (Or.inl ⟨by rfl, ?hc38⟩) hHeld ?rc38
                        case hc38 => ((intro w hSw; (try dsimp only at hSw); go_simp) <;> with_reducible rfl)
                        (try simp only [Act.put, List.setIfInBounds_toArray, List.set_cons_zero, List.set_cons_succ])
                        refine wpAnyH_done (by kernel_rfl) ?_ _
                        go_wp2
                        go_meet
                        exact ⟨rfl, rfl, hHeld.1⟩
                      case rest => as_aux_lemma =>
                        obtain ⟨rfl, rfl, hbf⟩ := hcut
                        have HTG := Lib.hid (HTF.out.below hbf)
                        have HLG := Lib.hid (HLF.out.below hbf)
                        clear hbf HTF HLF x0 x1 cv y0 y1 CR e1
                        go_wp2_with fail
                        go_roundw
                        case rel => exact ⟨j + 1, _, _, _, by omega, by go_num, HTG.out, HLG.out⟩
                        case measure => simp [intOf] <;> omega
          · have d0 : decide ((j : Int) < (n : Int)) = true := decide_eq_true (by omega)
            have d1 : decide ((j : Int) < 500) = false := decide_eq_false (by omega)
            have HE := Lib.hid HT.out.bel
            clear HT HL
            go_wp2_with fail
            go_ret
            exact ⟨rfl, HE.out⟩
        · have d0 : decide ((j : Int) < (n : Int)) = false := decide_eq_false (by omega)
          have HE := Lib.hid HT.out.bel
          clear HT HL
          go_wp2_with fail
          go_ret
          exact ⟨rfl, HE.out⟩
end Go.Proofs.Ytkdiibgjkipdnaa
