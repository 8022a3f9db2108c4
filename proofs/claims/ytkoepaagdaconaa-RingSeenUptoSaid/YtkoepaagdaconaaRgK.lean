/-
  The walk of RingSeen: a range over All goes over what there was when it began.
-/
import Derived.Test.YtkoepaagdaconaaRgJ
import Derived.StillTailTactics
import Derived.Sort.CutIn
import Derived.Outline
import Derived.Shelf.RegionOpen
import Derived.Deep.DeepCutAuto
import Derived.Deep.CutBlock
namespace Go.Proofs.Ytkoepaagdaconaa
open Go.RowKit Go.Shelf
set_option linter.unusedSimpArgs false
attribute [local go_sem] Oper.semAt_some

set_option maxHeartbeats 8000000 in
set_option maxRecDepth 100000 in
theorem ringSeen_walk (size outs : Int) (A1 : Option Addr) (k1 c1 : Nat) (zs : List Int) (A2 : Option Addr) (k2 c2 : Nat) (ys : List Int) (w : World)
    (hsz : -9223372036854775808 ≤ size ∧ size ≤ 9223372036854775807) (_hou : -9223372036854775808 ≤ outs ∧ outs ≤ 9223372036854775807) (hz : Is w A1 k1 zs) (hk1 : k1 * 8 ≤ 140737488351232) (hy : Is w A2 k2 ys) (hk2 : k2 * 8 ≤ 140737488351232) :
    Calls Try.prog 5 #[.agg #[.int .i64 size, .int .i64 outs, .slice A1 k1 c1, .slice A2 k2 c2]] w fun e w' => e = .returned (.bool true) ∧ Below w.heap.size w w' := by
  have HZ := Lib.hid hz
  obtain ⟨i0, hi, hz0, hz1, hz2⟩ := info_parts RI.info
  have HYS := Lib.hid hy
  have hpn := plus_wf hsz
  obtain ⟨y, hy'⟩ : ∃ y, plus size = y := ⟨_, rfl⟩
  have HYY := Lib.hid hy'
  rw [hy'] at hpn
  obtain ⟨n, hq, hq2⟩ : ∃ q : Nat, y.tmod 101 = (q : Int) ∧ q ≤ 100 := ⟨(y.tmod 101).toNat, by rw [Int.tmod_eq_emod_of_nonneg hpn.1]; omega, by rw [Int.tmod_eq_emod_of_nonneg hpn.1]; omega⟩
  have hq3 : y % 101 = (n : Int) := by rw [← hq, Int.tmod_eq_emod_of_nonneg hpn.1]
  clear hz hy hy'
  refine (callsIn_wide (n := 9)).1 ?_
  refine callsIn_of_wp_marks Try.func5 rfl trivial ?_ rfl
  simp only [Try.ntmps5, List.size_toArray, List.length_cons, List.length_nil, Nat.reduceAdd, Nat.reduceSub, Array.replicate_succ, Array.replicate_zero, List.push_toArray, List.append_toArray, List.nil_append, List.cons_append]
  refine wpIn_wide.2 ?_
  go_wp2_with fail
  have hRP := Row.new w 54 [.int .i64 size, .int .i64 outs, .slice A1 k1 c1, .slice A2 k2 c2]
  have hBP : Below w.heap.size w (w.alloc (.cells #[.int .i64 size, .int .i64 outs, .slice A1 k1 c1, .slice A2 k2 c2] 54)) := (Below.refl _ _).alloc (Nat.le_refl _) _
  change Row (w.alloc (.cells #[.int .i64 size, .int .i64 outs, .slice A1 k1 c1, .slice A2 k2 c2] 54)) _ _ _ at hRP
  generalize w.alloc (.cells #[.int .i64 size, .int .i64 outs, .slice A1 k1 c1, .slice A2 k2 c2] 54) = w0 at *
  refine (awake12_c _).mono ?_
  rintro e w1 ⟨rfl, hb1⟩
  have HB1 : Hid (Below w.heap.size w w1) := Lib.hid (hBP.trans (hb1.mono hBP.size))
  have hRP1 := hRP.grown hb1
  have p0 : w1.cell? ⟨w.heap.size, 0, none⟩ = some (.int .i64 size) := by rw [hRP1.cell]; rfl
  have p1 : w1.cell? ⟨w.heap.size, 1, none⟩ = some (.int .i64 outs) := by rw [hRP1.cell]; rfl
  have p2 : w1.cell? ⟨w.heap.size, 2, none⟩ = some (.slice A1 k1 c1) := by rw [hRP1.cell]; rfl
  have p3 : w1.cell? ⟨w.heap.size, 3, none⟩ = some (.slice A2 k2 c2) := by rw [hRP1.cell]; rfl
  clear hb1 hRP hBP hRP1
  go_upto_if 21 with (fail)
  go_cut [4] from 17 to 129 (fun v wc => v = .int .i64 y ∧ wc = w1)
  case first =>
    by_cases hz : size < 0
    · have := HYY.out
      unfold plus at this
      rw [if_pos hz] at this
      have HY2 := Lib.hid this
      clear this
      go_wp2
      go_meet
      case rel => exact ⟨by first | rfl | (congr 1 <;> (have := HY2.out; omega)), rfl⟩
    · have := HYY.out
      unfold plus at this
      rw [if_neg hz] at this
      have HY2 := Lib.hid this
      clear this
      go_wp2
      go_meet
      case rel => exact ⟨by first | rfl | (congr 1 <;> (have := HY2.out; omega)), rfl⟩
  case rest =>
  obtain ⟨rfl, rfl⟩ := hcut
  have p3' : ∀ o, (wc.alloc o).cell? ⟨w.heap.size, 3, none⟩ = some (.slice A2 k2 c2) := fun o => (((Below.refl wc.heap.size wc).alloc (Nat.le_refl _) o).cell (p := ⟨w.heap.size, 3, none⟩) (cell_lt p3)).trans p3
  go_wp2_with fail
  have hs : ∀ (v : World) (o : Obj), (v.alloc o).heap.size = v.heap.size + 1 := fun v o => by show (v.heap.push o).size = _; rw [Array.size_push]
  have hRo : Row ((wc.alloc (.cells #[.int .i64 outs] 3)).alloc (.cells #[.slice A2 k2 c2] 22)) wc.heap.size 3 [.int .i64 outs] := (Row.new wc _ [_]).alloc _
  have hRi : Row ((wc.alloc (.cells #[.int .i64 outs] 3)).alloc (.cells #[.slice A2 k2 c2] 22)) (wc.heap.size + 1) 22 [.slice A2 k2 c2] := by
    have := Row.new (wc.alloc (.cells #[.int .i64 outs] 3)) 22 [.slice A2 k2 c2]
    rw [hs] at this
    exact this
  have hB2 : Below w.heap.size w ((wc.alloc (.cells #[.int .i64 outs] 3)).alloc (.cells #[.slice A2 k2 c2] 22)) := (HB1.out.alloc HB1.out.size _).alloc (by rw [hs]; have := HB1.out.size; omega) _
  obtain ⟨bo, hbo⟩ : ∃ bo, wc.heap.size = bo := ⟨_, rfl⟩
  have hbw : w.heap.size ≤ bo := by rw [← hbo]; exact HB1.out.size
  generalize (wc.alloc (.cells #[.int .i64 outs] 3)).alloc (.cells #[.slice A2 k2 c2] 22) = w2 at *
  rw [hbo] at hRo hRi ⊢
  have HRo := Lib.hid hRo
  have HRi := Lib.hid hRi
  have HB2 := Lib.hid hB2
  have HBW := Lib.hid hbw
  clear hRo hRi hB2 hbw hbo p0 p1 p2 p3 p3' HB1
  with_reducible refine (RI.new_c n hq2 w2).mono ?_
  rintro e w3 ⟨b, g, rfl, hb, hg, hR, hB⟩
  have hB3 : Below w.heap.size w w3 := HB2.out.trans (hB.mono HB2.out.size)
  have hbn : bo + 1 < w2.heap.size := HRi.out.lt
  have hRr : Row ((w3.alloc (.cells #[.pointer (some ⟨b, 0, none⟩)] 35)).alloc (.cells #[.slice none 0 0] 22)) w3.heap.size 35 [.pointer (some ⟨b, 0, none⟩)] := (Row.new w3 _ [_]).alloc _
  have hRt : Row ((w3.alloc (.cells #[.pointer (some ⟨b, 0, none⟩)] 35)).alloc (.cells #[.slice none 0 0] 22)) (w3.heap.size + 1) 22 [.slice none 0 0] := by
    have := Row.new (w3.alloc (.cells #[.pointer (some ⟨b, 0, none⟩)] 35)) 22 [.slice none 0 0]
    rw [hs] at this
    exact this
  have hB4 : Below w3.heap.size w3 ((w3.alloc (.cells #[.pointer (some ⟨b, 0, none⟩)] 35)).alloc (.cells #[.slice none 0 0] 22)) := ((Below.refl _ _).alloc (Nat.le_refl _) _).alloc (by rw [hs]; omega) _
  have hbr : b < w3.heap.size ∧ g < w3.heap.size := by
    obtain ⟨f, vs, h⟩ := hR
    exact ⟨h.obj.lt, h.room.lt⟩
  go_upto_block 0 with (fail)
  have HR : Hid (Ring ((w3.alloc (.cells #[.pointer (some ⟨b, 0, none⟩)] 35)).alloc (.cells #[.slice none 0 0] 22)) 64 3 b g n (ints (zs.take 0))) := Lib.hid (by rw [List.take_zero]; exact hR.below hB4)
  have HRo := Lib.hid ((HRo.out.grown hB).grown hB4)
  have HRi := Lib.hid ((HRi.out.grown hB).grown hB4)
  have HB5 : Hid (Below w.heap.size w ((w3.alloc (.cells #[.pointer (some ⟨b, 0, none⟩)] 35)).alloc (.cells #[.slice none 0 0] 22))) := Lib.hid (hB3.trans (hB4.mono hB3.size))
  have hsz4 : ((w3.alloc (.cells #[.pointer (some ⟨b, 0, none⟩)] 35)).alloc (.cells #[.slice none 0 0] 22)).heap.size = w3.heap.size + 2 := by rw [hs, hs]
  generalize (w3.alloc (.cells #[.pointer (some ⟨b, 0, none⟩)] 35)).alloc (.cells #[.slice none 0 0] 22) = w4 at *
  obtain ⟨br, hbr2⟩ : ∃ br, w3.heap.size = br := ⟨_, rfl⟩
  rw [hbr2] at hRr hRt hbr hsz4 ⊢
  have HRr := Lib.hid hRr
  have HRt := Lib.hid hRt
  have HSZ := Lib.hid hsz4
  have hnum : w.heap.size ≤ bo ∧ bo + 1 < b ∧ bo + 1 < g ∧ b < br ∧ g < br := ⟨HBW.out, by omega, by omega, hbr.1, hbr.2⟩
  have HN := Lib.hid hnum
  clear hRr hRt hB hB3 hB4 hR hbr hbr2 hb hg hbn hsz4 hnum hq hq3
  go_cut [2, 11] from 17 to 129 (fun s2 s11 wd => ∃ (t : Nat) (At : Option Addr) (ct : Nat) (xs : List Int), t ≤ k1 ∧ t ≤ n ∧ xs.length = t ∧ Th wd (br + 2) wd.heap.size (.slice At t ct) xs ∧ Ring wd 64 3 b g n (ints xs) ∧ Row wd (br + 1) 22 [.slice At t ct] ∧
    Row wd br 35 [.pointer (some ⟨b, 0, none⟩)] ∧ Row wd bo 3 [.int .i64 outs] ∧ Row wd (bo + 1) 22 [.slice A2 k2 c2] ∧ Below w.heap.size w wd)
  case first =>
    go_wp2_with fail
    go_loopw [11] (fun i wr => ∃ t : Nat, t ≤ k1 ∧ t ≤ n ∧ i = .int .i64 t ∧ Ring wr 64 3 b g n (ints (zs.take t)) ∧ (∃ vt, Row wr (br + 1) 22 [vt] ∧ wr.ownsRow (br + 2) 3 1 vt t (ints (zs.take t))) ∧
      Row wr br 35 [.pointer (some ⟨b, 0, none⟩)] ∧ Row wr bo 3 [.int .i64 outs] ∧ Row wr (bo + 1) 22 [.slice A2 k2 c2] ∧ Below w.heap.size w wr) (fun i _ => k1 - (intOf i).toNat)
    case atStart => exact ⟨0, by omega, by omega, rfl, HR.out, ⟨_, HRt.out, World.ownsRow_nil _ _ _ _⟩, HRr.out, HRo.out, HRi.out, HB5.out⟩
    case round =>
      obtain ⟨t, ht, htn, rfl, hR, ⟨vt, hRt, hown⟩, hRr, hRo, hRi, hB⟩ := hrel
      obtain ⟨At, ct, hvt⟩ := owns_form hown
      subst hvt
      have nn := HN.out
      have cr : wr.cell? ⟨br, 0, none⟩ = some (.pointer (some ⟨b, 0, none⟩)) := by rw [hRr.cell]; rfl
      have cth : wr.cell? ⟨br + 1, 0, none⟩ = some (.slice At t ct) := by rw [hRt.cell]; rfl
      have fth := hRt.frozen 0
      have CC := Lib.hid (fun d => RI.cap_c b g n _ (wr.drewN d) (hR.drewN d))
      have HRr := Lib.hid hRr
      have HRo := Lib.hid hRo
      have HRi := Lib.hid hRi
      have HRt := Lib.hid hRt
      have HO := Lib.hid hown
      have HBr := Lib.hid hB
      by_cases hc : t < k1 ∧ t < n
      · obtain ⟨hlt, hlt2⟩ := hc
        obtain ⟨ad, hA, hcell⟩ := HZ.out.at_ (by omega)
        have cx0 := hcell t hlt
        have htk := take_snoc (xs := zs) (t := t) (by rw [HZ.out.len]; exact hlt)
        subst hA
        obtain ⟨x, hx⟩ : ∃ x, zs.getD t 0 = x := ⟨_, rfl⟩
        rw [hx] at cx0 htk
        have HTK := Lib.hid htk
        have HX0 := Lib.hid cx0
        have cx := (hB.cell (p := ad.add t) (cell_lt cx0)).trans cx0
        have CP := Lib.hid (fun d => RI.put_c b g n _ x (wr.drewN d) (hR.drewN d) hq2 (by rw [ints_len, List.length_take]; omega))
        have t0 : (0 : Int) ≤ (t : Int) := by omega
        have t1 : (t : Int) < (k1 : Int) := by omega
        have t2 : (t : Int) < (n : Int) := by omega
        clear hR hRr hRo hRi hRt hown hB hcell cx0 hx htk
        go_wp2_with fail
        go_quiet ((go_at_call 23; refine (CC.out _).mono ?_; rintro e w8 ⟨rfl, rfl⟩; exact ⟨rfl, _, rfl⟩))
        go_wp2_with fail
        go_region_held3 (fun w' => w'.cell? ⟨br, 0, none⟩ = some (.pointer (some ⟨b, 0, none⟩)) ∧ w'.cell? (ad.add t) = some (.int .i64 x))
          (first | go_keep | exact ⟨cr5, cx5⟩)
          ((go_at_call 14; refine (CP.out _).mono ?_; rintro e w5 ⟨rfl, hR5, hb5⟩; have HB5 : Hid (But (fun k => k = b ∨ k = g) wr w5) := Lib.hid ⟨hb5.os, hb5.tape, hb5.output, hb5.size, hb5.block⟩; have HR5 := Lib.hid hR5; have HBl5 : Hid (Below w.heap.size w w5) := Lib.hid (HB5.out.below HBr.out HBr.out.size (fun i hi => by rcases hi with rfl | rfl <;> omega)); have cr5 : w5.cell? ⟨br, 0, none⟩ = some (.pointer (some ⟨b, 0, none⟩)) := (HB5.out.row HRr.out (by omega)).cell 0; have cx5 := (HBl5.out.cell (p := ad.add t) (cell_lt HX0.out)).trans HX0.out; clear hR5 hb5))
        have HR5t := Lib.hid (HB5.out.row HRt.out (by omega))
        have HO5 := Lib.hid (HB5.out.owns HO.out (fun k hk hs => by rcases hs with rfl | rfl <;> omega))
        have ct5 : w5.cell? ⟨br + 1, 0, none⟩ = some (.slice At t ct) := HR5t.out.cell 0
        have ft5 := HR5t.out.frozen 0
        clear cr cth fth cx
        go_wp2_with fail
        have ct5a : ∀ o, (w5.alloc o).cell? ⟨br + 1, 0, none⟩ = some (.slice At t ct) := fun o => (((Below.refl w5.heap.size w5).alloc (Nat.le_refl _) o).cell (p := ⟨br + 1, 0, none⟩) HR5t.out.lt).trans ct5
        have hk6 : (Value.slice At t ct).ownBlock ≠ some (br + 1) := fun e => by have := (HO5.out.lt _ e).1; omega
        have HK6 := Lib.hid hk6
        clear hk6
        refine wp_region_noPanic ?_
        go_region_law (refine step_append_lies _ (by rfl) _ _ _ (by rfl) (br + 2) 3 i0 (.int .i64 0) 1 8 Try.underlying22 hi hz0 hz1 hz2 rfl (by decide) (.slice At t ct) t (ints (zs.take t)) (by rfl) (World.ownsRow.drew (World.ownsRow.alloc HO5.out _)) ⟨w5.heap.size, 0, none⟩ 1 1 [.int .i64 x] (by rfl) (by rfl) (World.news_of_block (cs := #[.int .i64 x]) (t := 3) (fr := (0, 0)) (heap_alloc_new w5 _)) (by simp [Value.oneCell']) (by omega) (by unfold maxLen; omega) (by omega) (by have := HR5t.out.lt; simp; omega) (w5.heap.size + 1) (by simp) ?_; intro g6 cap6 w6 ho6 hg6 hl6 hlt6; have HO6 := Lib.hid ho6; have HB6 : Hid (But (fun k => (Value.slice At t ct).ownBlock = some k) w5 w6) := Lib.hid ⟨hg6.os, hg6.tape, hg6.output, Nat.le_trans (by simp) hg6.size, fun k hk hs => (hg6.block k (by simp; omega) (Ne.symm hs)).trans (Below.heap_alloc w5 _ k hk)⟩; have HR6t := Lib.hid (HB6.out.row HR5t.out HK6.out); have ct6 : w6.cell? ⟨br + 1, 0, none⟩ = some (.slice At t ct) := HR6t.out.cell 0; have ft6 := HR6t.out.frozen 0; clear ho6 hg6 hl6 hlt6)
        all_goals (
          refine NoPanic.normal ?_
          go_wp2
          go_roundw
          case rel =>
            have hbb := HB5.out.below HBr.out HBr.out.size (fun i hi => by rcases hi with rfl | rfl <;> omega)
            have far : ∀ k, k < br + 2 → ¬ (Value.slice At t ct).ownBlock = some k := fun k hk e => by have := (HO5.out.lt _ e).1; omega
            have b56 : But (fun k => k = br + 1 ∨ (Value.slice At t ct).ownBlock = some k) w5 (w6.setCell ⟨br + 1, 0, none⟩ (.slice (some ⟨g6, 0, none⟩) (t + 1) cap6)) := (HB6.out.weaken (fun k hk => .inr hk)).set ⟨br + 1, 0, none⟩ _ (.inl rfl)
            refine ⟨t + 1, by omega, by omega, by go_num, ?_, ⟨_, (HR6t.out.set 0 _), ?_⟩, ?_, ?_, ?_, ?_⟩
            · rw [HTK.out, ← ints_snoc]
              exact HR5.out.but b56 (fun h => by rcases h with h | h; omega; exact far _ (by omega) h) (fun h => by rcases h with h | h; omega; exact far _ (by omega) h)
            · rw [HTK.out, ← ints_snoc]
              exact ((But.refl (fun k => k = br + 1) w6).set ⟨br + 1, 0, none⟩ _ rfl).owns HO6.out (fun k hk e => by omega)
            · exact b56.row (HB5.out.row HRr.out (by omega)) (fun h => by rcases h with h | h; omega; exact far _ (by omega) h)
            · exact b56.row (HB5.out.row HRo.out (by omega)) (fun h => by rcases h with h | h; omega; exact far _ (by omega) h)
            · exact b56.row (HB5.out.row HRi.out (by omega)) (fun h => by rcases h with h | h; omega; exact far _ (by omega) h)
            · exact b56.below hbb hbb.size (fun k hk => by rcases hk with rfl | hk; omega; have := (HO5.out.lt _ hk).1; omega)
          case measure => simp [intOf]; omega)
      · have hx : (¬ (t : Int) < (k1 : Int)) ∨ ((t : Int) < (k1 : Int) ∧ ¬ (t : Int) < (n : Int)) := by omega
        obtain ⟨xs, hxs⟩ : ∃ xs, zs.take t = xs := ⟨_, rfl⟩
        have hxl : xs.length = t := by rw [← hxs, List.length_take, HZ.out.len]; omega
        rw [hxs] at hown hR
        have HTH : Hid (Th wr (br + 2) wr.heap.size (.slice At t ct) xs) := Lib.hid (th_of_owns hown hxl.symm)
        have HR := Lib.hid hR
        have HXL := Lib.hid hxl
        clear hR hRr hRo hRi hRt hown hB hxs hxl hc
        rcases hx with hx | ⟨hx1, hx⟩
        · have hd : decide (t < k1) = false := decide_eq_false (by omega)
          go_wp2_with fail
          go_quiet (fail)
          go_wp2
          go_meet
          case rel => exact ⟨t, At, ct, xs, ht, htn, HXL.out, HTH.out.but ((But.refl (fun _ => False) _).drewN _) (fun _ _ _ h => h), HR.out.drewN _, HRt.out.drewN _, HRr.out.drewN _, HRo.out.drewN _, HRi.out.drewN _, below_drewN HBr.out _⟩
        · go_wp2_with fail
          go_quiet ((go_at_call 23; refine (CC.out _).mono ?_; rintro e w8 ⟨rfl, rfl⟩; exact ⟨rfl, _, rfl⟩))
          go_wp2
          go_meet
          case rel => exact ⟨t, At, ct, xs, ht, htn, HXL.out, HTH.out.but ((But.refl (fun _ => False) _).drewN _) (fun _ _ _ h => h), HR.out.drewN _, HRt.out.drewN _, HRr.out.drewN _, HRo.out.drewN _, HRi.out.drewN _, below_drewN HBr.out _⟩
  case rest =>
  obtain ⟨t, At, ct, xs, ht, htn, hxl, hth, hR, hRt, hRr, hRo, hRi, hB⟩ := hcut
  have HTH := Lib.hid hth
  have HR := Lib.hid hR
  have HXL := Lib.hid hxl
  have HRt := Lib.hid hRt
  have HRr := Lib.hid hRr
  have HRo := Lib.hid hRo
  have HRi := Lib.hid hRi
  have HBr := Lib.hid hB
  have hsz1 : br + 1 < wc.heap.size := hRt.lt
  have nn := HN.out
  have cr : wc.cell? ⟨br, 0, none⟩ = some (.pointer (some ⟨b, 0, none⟩)) := hRr.cell 0
  have cr2 : ∀ o o', ((wc.alloc o).alloc o').cell? ⟨br, 0, none⟩ = some (.pointer (some ⟨b, 0, none⟩)) := fun o o' => ((HRr.out.alloc o).alloc o').cell 0
  clear hth hR hxl hRt hRr hRo hRi hB
  go_wp2_with (go_at_call 24; refine (all_c (some ⟨b, 0, none⟩) _).mono ?_; rintro e w7 ⟨rfl, rfl⟩)
  have hsw : ∀ o, (wc.alloc o).heap.size = wc.heap.size + 1 := fun o => hs _ _
  have hn1 : Row (((wc.alloc (.cells #[.int .i64 0] 3)).alloc (.cells #[.bool true] 4)).alloc (.cells #[.pointer (some ⟨b, 0, none⟩)] 35)) wc.heap.size 3 [.int .i64 0] := ((Row.new wc _ [_]).alloc _).alloc _
  have hk1' : Row (((wc.alloc (.cells #[.int .i64 0] 3)).alloc (.cells #[.bool true] 4)).alloc (.cells #[.pointer (some ⟨b, 0, none⟩)] 35)) (wc.heap.size + 1) 4 [.bool true] := by
    have := (Row.new (wc.alloc (.cells #[.int .i64 0] 3)) 4 [.bool true]).alloc (.cells #[.pointer (some ⟨b, 0, none⟩)] 35)
    rw [hs] at this
    exact this
  have hp1 : Row (((wc.alloc (.cells #[.int .i64 0] 3)).alloc (.cells #[.bool true] 4)).alloc (.cells #[.pointer (some ⟨b, 0, none⟩)] 35)) (wc.heap.size + 2) 35 [.pointer (some ⟨b, 0, none⟩)] := by
    have := Row.new ((wc.alloc (.cells #[.int .i64 0] 3)).alloc (.cells #[.bool true] 4)) 35 [.pointer (some ⟨b, 0, none⟩)]
    rw [hs, hs] at this
    exact this
  have hq0 : But (fun _ => False) wc (((wc.alloc (.cells #[.int .i64 0] 3)).alloc (.cells #[.bool true] 4)).alloc (.cells #[.pointer (some ⟨b, 0, none⟩)] 35)) := (((But.refl _ _).alloc _).alloc _).alloc _
  generalize ((wc.alloc (.cells #[.int .i64 0] 3)).alloc (.cells #[.bool true] 4)).alloc (.cells #[.pointer (some ⟨b, 0, none⟩)] 35) = ww at *
  have hwq : br + 1 < wc.heap.size := by omega
  have hI0 : SeenI n b g wc.heap.size (wc.heap.size + 1) br bo outs A2 k2 c2 At t ct xs [] ww :=
    ⟨hn1, hk1', ⟨xs, HR.out.but hq0 (fun h => h) (fun h => h)⟩, hq0.row HRr.out (fun h => h), hq0.row HRo.out (fun h => h), hq0.row HRi.out (fun h => h), hq0.row HRt.out (fun h => h), HTH.out.but hq0 (fun _ _ _ h => h)⟩
  have hBw : Below w.heap.size w ww := hq0.below HBr.out HBr.out.size (fun i hi => hi.elim)
  have hbp : ww.cell? ⟨wc.heap.size + 2, 0, none⟩ = some (.pointer (some ⟨b, 0, none⟩)) := hp1.cell 0
  have hsw2 : wc.heap.size + 2 < ww.heap.size := hp1.lt
  have hRw : Ring ww 64 3 b g n (xs.map (Value.int .i64)) := HR.out.but hq0 (fun h => h) (fun h => h)
  obtain ⟨bn, hbn⟩ : ∃ bn, wc.heap.size = bn := ⟨_, rfl⟩
  rw [hbn] at hI0 hbp hsw2 hwq ⊢
  have HI0 := Lib.hid hI0
  have HBw := Lib.hid hBw
  have HRw := Lib.hid hRw
  have hSS : ∀ k, (k = bn ∨ k = bn + 1 ∨ k = b ∨ k = g) → k < ww.heap.size := fun k hk => by rcases hk with rfl | rfl | rfl | rfl <;> omega
  have HSS := Lib.hid hSS
  clear hn1 hk1' hp1 hq0 hI0 hBw cr cr2 hsw hbn hRw hSS
  refine (wpIn_wide (n := 9)).1 ?_
  refine wpIn_rangeFunc_ownF (α := Int) rfl (by omega) (gf := 27) (lb := #[.pointer (some ⟨bn + 2, 0, none⟩)]) rfl trivial (enters_of Try.func27 (by kernel_rfl) rfl)
    (all_stops 7 (bn + 2) b g n (fun k => k = bn ∨ k = bn + 1 ∨ k = b ∨ k = g) xs ww hbp HRw.out hq2 HSS.out) keptBut_t keptBut_b (Below.refl _ _) (fun _ => rfl)
    (fun pre W => SeenI n b g bn (bn + 1) br bo outs A2 k2 c2 At t ct xs pre W ∧ Below w.heap.size w W) (fun _ _ _ => False)
    (OwnFrom.and (Own.from (seenI_own n b g bn (bn + 1) br bo outs A2 k2 c2 At t ct xs) _) (ownFrom_below (Nat.le_refl _) HBw.out.size)) (fun _ _ _ _ _ hs _ _ => hs) ⟨HI0.out, HBw.out⟩ ?a1 ?assign ?body ?done ?stop
  case assign =>
    intro l x W K hK
    have HK := Lib.hid hK
    clear hK
    gi_wp2
    exact HK.out
  case stop =>
    rintro D c pre W _ _ h _
    exact h.elim
  case done =>
    rintro D pre W hD rfl ⟨hI, hB⟩ hK
    have c1 : W.cell? ⟨bn, 0, none⟩ = some (.int .i64 (pre.length : Nat)) := hI.1.cell 0
    have c2' : W.cell? ⟨bn + 1, 0, none⟩ = some (.bool true) := by have := hI.2.1.cell 0; rw [okV_self] at this; exact this
    have c3 : W.cell? ⟨br + 1, 0, none⟩ = some (.slice At t ct) := hI.2.2.2.2.2.2.1.cell 0
    have hlt := HXL.out
    rw [hlt] at c1
    have htt : ((t : Int) == (t : Int)) = true := beq_self_eq_true _
    have HB := Lib.hid hB
    have HK := Lib.hid hK
    have HD := Lib.hid hD
    clear hI hB hK hD hlt
    go_wp2
    refine ⟨by simp, .inl ⟨_, _, rfl, run_takeDeferred HK.out, ?_⟩⟩
    exact ⟨_, results_tmp rfl _ _ _, rfl, HB.out.trans (belowK_b (w := ww) HBw.out.size W D _ _ HD.out HK.out rfl rfl)⟩
  case body =>
    rintro l pre x W ⟨hI, hB⟩ hlen
    have nn := HN.out
    have hlx := HXL.out
    rw [hlx] at hlen
    have a1 : W.cell? ⟨bn, 0, none⟩ = some (.int .i64 (pre.length : Nat)) := hI.1.cell 0
    have a1f := hI.1.frozen 0
    have a2 : W.cell? ⟨bn + 1, 0, none⟩ = some (.bool (okV xs pre)) := hI.2.1.cell 0
    have a2f := hI.2.1.frozen 0
    have a3 : W.cell? ⟨br + 1, 0, none⟩ = some (.slice At t ct) := hI.2.2.2.2.2.2.1.cell 0
    have hth : ∃ gt, At = some ⟨gt, 0, none⟩ ∧ br + 2 ≤ gt ∧ W.cell? ⟨gt, pre.length, none⟩ = some (.int .i64 (xs.getD pre.length 0)) := by
      rcases hI.2.2.2.2.2.2.2 with ⟨_, h2⟩ | ⟨gt, cap, rest, h1, h2, h3⟩
      · rw [h2] at hlx; simp at hlx; omega
      · refine ⟨gt, by injection h1, h2.1, ?_⟩
        rw [h3.cell, List.getElem?_append_left (by rw [ints_len]; omega), ints_get _ _ (by omega)]
    obtain ⟨gt, hAt, hgt, a4⟩ := hth
    have HOK := Lib.hid (okV_snoc xs pre x)
    have HPL : Hid ((pre ++ [x]).length = pre.length + 1) := Lib.hid (by simp)
    have HI := Lib.hid hI
    have HBb := Lib.hid hB
    have hlt5 : decide (pre.length < xs.length) = true := decide_eq_true (by omega)
    rw [hlt5] at HOK
    clear hlt5
    obtain ⟨yv, hyv⟩ : ∃ yv, xs.getD pre.length 0 = yv := ⟨_, rfl⟩
    rw [hyv] at HOK a4
    obtain ⟨o, ho⟩ : ∃ o, okV xs pre = o := ⟨_, rfl⟩
    rw [ho] at HOK a2
    obtain ⟨m, hm⟩ : ∃ m, pre.length = m := ⟨_, rfl⟩
    rw [hm] at HPL a1 a4 hlen
    have hmt : (m : Int) < (t : Int) := by omega
    have hm0 : (0 : Int) ≤ (m : Int) := by omega
    subst hAt
    clear hI hB hyv ho hm hlx
    have HS : Hid (∀ k, (k = bn ∨ k = bn + 1 ∨ k = b ∨ k = g) → ∃ e vs, Row W k e vs) := Lib.hid (fun k hk => by
      obtain ⟨q, f, vs, hr⟩ := HI.out.2.2.1
      rcases hk with rfl | rfl | rfl | rfl
      · exact ⟨_, _, HI.out.1⟩
      · exact ⟨_, _, HI.out.2.1⟩
      · exact ⟨_, _, hr.obj⟩
      · exact ⟨_, _, hr.room⟩)
    have HFar : Hid (¬ (br = bn ∨ br = bn + 1 ∨ br = b ∨ br = g) ∧ ¬ (bo = bn ∨ bo = bn + 1 ∨ bo = b ∨ bo = g) ∧ ¬ (bo + 1 = bn ∨ bo + 1 = bn + 1 ∨ bo + 1 = b ∨ bo + 1 = g) ∧ ¬ (br + 1 = bn ∨ br + 1 = bn + 1 ∨ br + 1 = b ∨ br + 1 = g)) := Lib.hid (by omega)
    have hmx : Try.prog.follows .mixedOrders = true := by kernel_rfl
    have HOKs : Hid (∀ v, v = (o && (true && (x == yv))) → Row ((W.setCell ⟨bn + 1, 0, none⟩ (.bool v)).setCell ⟨bn, 0, none⟩ (.int .i64 ((m : Int) + 1))) (bn + 1) 4 [.bool (okV xs (pre ++ [x]))]) := Lib.hid (fun v hv => by
      have := (HI.out.2.1.set 0 (.bool v)).far (p := ⟨bn, 0, none⟩) (by show bn + 1 ≠ bn; omega) (.int .i64 ((m : Int) + 1))
      rw [HOK.out, ← hv]
      exact this)
    have HNs : Hid (∀ v, Row ((W.setCell ⟨bn + 1, 0, none⟩ (.bool v)).setCell ⟨bn, 0, none⟩ (.int .i64 ((m : Int) + 1))) bn 3 [.int .i64 ((pre ++ [x]).length : Nat)]) := Lib.hid (fun v => by
      have := (HI.out.1.far (p := ⟨bn + 1, 0, none⟩) (by show bn ≠ bn + 1; omega) (.bool v)).set 0 (.int .i64 ((m : Int) + 1))
      rw [HPL.out]
      exact this)
    have HBs : Hid (∀ v, But (fun k => k = bn ∨ k = bn + 1 ∨ k = b ∨ k = g) W ((W.setCell ⟨bn + 1, 0, none⟩ (.bool v)).setCell ⟨bn, 0, none⟩ (.int .i64 ((m : Int) + 1)))) := Lib.hid (fun v => ((But.refl _ W).set ⟨bn + 1, 0, none⟩ _ (.inr (.inl rfl))).set ⟨bn, 0, none⟩ _ (.inl rfl))
    have HBr2 : Hid (∀ v, ∃ q, Ring ((W.setCell ⟨bn + 1, 0, none⟩ (.bool v)).setCell ⟨bn, 0, none⟩ (.int .i64 ((m : Int) + 1))) 64 3 b g n (ints q)) := Lib.hid (fun v => by
      obtain ⟨q, hq⟩ := HI.out.2.2.1
      exact ⟨q, hq.but (((But.refl (fun k => k = bn ∨ k = bn + 1) W).set ⟨bn + 1, 0, none⟩ _ (.inr rfl)).set ⟨bn, 0, none⟩ _ (.inl rfl)) (by omega) (by omega)⟩)
    cases o
    · gi_upto_region 24 with (fail)
      have e1 := HOKs.out _ rfl
      have e2 := HNs.out false
      have e3 := HBs.out false
      simp only [Bool.false_and] at e1
      have HQ3 := Lib.hid (HBr2.out false)
      generalize (W.setCell ⟨bn + 1, 0, none⟩ (.bool false)).setCell ⟨bn, 0, none⟩ (.int .i64 ((m : Int) + 1)) = W2 at *
      have HFin : Hid (∀ W3, But (fun k => k = bn ∨ k = bn + 1 ∨ k = b ∨ k = g) W2 W3 → Row W3 bn 3 [.int .i64 ((pre ++ [x]).length : Nat)] → Row W3 (bn + 1) 4 [.bool (okV xs (pre ++ [x]))] → (∃ q, Ring W3 64 3 b g n (ints q)) →
          KeepsOthers W W3 ∧ KeptBut (fun k => k = bn ∨ k = bn + 1 ∨ k = b ∨ k = g) W W3 ∧ SeenI n b g bn (bn + 1) br bo outs A2 k2 c2 (some ⟨gt, 0, none⟩) t ct xs (pre ++ [x]) W3 ∧ Below w.heap.size w W3) := Lib.hid (fun W3 h h1 h2 h3 => by
        have hb := e3.trans h
        exact ⟨hb.others HS.out, hb.keeps, HI.out.but hb h1 h2 h3 HFar.out (fun k hk hk2 hs => by rcases hs with rfl | rfl | rfl | rfl <;> omega), hb.below HBb.out HBb.out.size (fun k hk => by rcases hk with rfl | rfl | rfl | rfl <;> omega)⟩)
      have c1' : W2.cell? ⟨bn, 0, none⟩ = some (.int .i64 ((m : Int) + 1)) := by
        have := e2.cell 0
        rw [HPL.out] at this
        exact this
      have HE1 := Lib.hid e1
      have HE2 := Lib.hid e2
      have HE3 := Lib.hid e3
      clear e1 e2 e3 a1 a1f a2 a2f a3 a4
      by_cases hm1 : m = 0
      · have e0 : ((m : Int) + 1 == 1) = true := beq_iff_eq.2 (by omega)
        clear hm1
        have co : W2.cell? ⟨bo, 0, none⟩ = some (.int .i64 outs) := (HE3.out.row HI.out.2.2.2.2.1 HFar.out.2.1).cell 0
        gi_wp2
        gi_loopw [15] (fun i wx => ∃ j : Nat, j ≤ 101 ∧ i = .int .i64 j ∧ (∃ q, Ring wx 64 3 b g n (ints q)) ∧ But (fun k => k = bn ∨ k = bn + 1 ∨ k = b ∨ k = g) W2 wx ∧ Row wx bn 3 [.int .i64 ((pre ++ [x]).length : Nat)] ∧ Row wx (bn + 1) 4 [.bool (okV xs (pre ++ [x]))]) (fun i _ => 101 - (intOf i).toNat)
        case atStart => exact ⟨0, by omega, rfl, HQ3.out, But.refl _ _, HE2.out, HE1.out⟩
        case round =>
          obtain ⟨j, hj, rfl, ⟨q, hq⟩, hbx, hnx, hkx⟩ := hrel
          have cox : wr.cell? ⟨bo, 0, none⟩ = some (.int .i64 outs) := (hbx.row (HE3.out.row HI.out.2.2.2.2.1 HFar.out.2.1) HFar.out.2.1).cell 0
          have crx : wr.cell? ⟨br, 0, none⟩ = some (.pointer (some ⟨b, 0, none⟩)) := (hbx.row (HE3.out.row HI.out.2.2.2.1 HFar.out.1) HFar.out.1).cell 0
          have cix : wr.cell? ⟨bo + 1, 0, none⟩ = some (.slice A2 k2 c2) := (hbx.row (HE3.out.row HI.out.2.2.2.2.2.1 HFar.out.2.2.1) HFar.out.2.2.1).cell 0
          have HBx := Lib.hid hbx
          have HNX := Lib.hid hnx
          have HKX := Lib.hid hkx
          have HQX : Hid (∃ q, Ring wr 64 3 b g n (ints q)) := Lib.hid ⟨q, hq⟩
          have CK := Lib.hid (take_any b g n q wr hq hq2)
          clear hq hbx hnx hkx co
          by_cases hc : (j : Int) < outs ∧ (j : Int) < 101
          · obtain ⟨hc1, hc2⟩ := hc
            gi_wp2_with (refine ⟨trivial, ?_⟩; gi_at_call 16; refine (CallsIn.inRound l (callsIn_wide.2 CK.out)).mono ?_; rintro e w9 ⟨⟨x1, y1, rfl⟩, hq9, hb9⟩; have HQ9 := Lib.hid hq9; have HB9 := Lib.hid hb9; clear hq9 hb9)
            go_roundw
            case rel => exact ⟨j + 1, by omega, by go_num, HQ9.out, HBx.out.trans (HB9.out.weaken (fun k hk => by rcases hk with rfl | rfl; exact .inr (.inr (.inl rfl)); exact .inr (.inr (.inr rfl)))), HB9.out.row HNX.out (by omega), HB9.out.row HKX.out (by omega)⟩
            case measure => simp [intOf]; omega
          · have hx : (¬ (j : Int) < outs) ∨ ((j : Int) < outs ∧ ¬ (j : Int) < 101) := by omega
            clear hc
            rcases hx with hx | ⟨hx1, hx⟩
            all_goals (
              gi_wp2
              gi_loopw [16] (fun i wy => ∃ j2 : Nat, j2 ≤ 101 ∧ i = .int .i64 j2 ∧ (∃ q, Ring wy 64 3 b g n (ints q)) ∧ But (fun k => k = bn ∨ k = bn + 1 ∨ k = b ∨ k = g) W2 wy ∧ Row wy bn 3 [.int .i64 ((pre ++ [x]).length : Nat)] ∧ Row wy (bn + 1) 4 [.bool (okV xs (pre ++ [x]))]) (fun i _ => 101 - (intOf i).toNat)
              case atStart => exact ⟨0, by omega, rfl, HQX.out, HBx.out, HNX.out, HKX.out⟩
              case round =>
                obtain ⟨j2, hj2, rfl, ⟨q2, hq2'⟩, hby, hny, hky⟩ := hrel
                have cry : wr.cell? ⟨br, 0, none⟩ = some (.pointer (some ⟨b, 0, none⟩)) := (hby.row (HE3.out.row HI.out.2.2.2.1 HFar.out.1) HFar.out.1).cell 0
                have ciy : wr.cell? ⟨bo + 1, 0, none⟩ = some (.slice A2 k2 c2) := (hby.row (HE3.out.row HI.out.2.2.2.2.2.1 HFar.out.2.2.1) HFar.out.2.2.1).cell 0
                have HBy := Lib.hid hby
                have HNY := Lib.hid hny
                have HKY := Lib.hid hky
                have HQY : Hid (∃ q, Ring wr 64 3 b g n (ints q)) := Lib.hid ⟨q2, hq2'⟩
                clear hby hny hky cox crx cix
                by_cases hc : (j2 : Int) < (k2 : Int) ∧ (j2 : Int) < 101
                · obtain ⟨hc1, hc2⟩ := hc
                  obtain ⟨ad2, hA2, hcell⟩ := HYS.out.at_ (by omega)
                  have hbelow : Below w.heap.size w wr := (HE3.out.trans HBy.out).below HBb.out HBb.out.size (fun k hk => by rcases hk with rfl | rfl | rfl | rfl <;> omega)
                  have cy := (hbelow.cell (p := ad2.add j2) (cell_lt (hcell j2 (by omega)))).trans (hcell j2 (by omega))
                  obtain ⟨z2, hz2⟩ : ∃ z2, ys.getD j2 0 = z2 := ⟨_, rfl⟩
                  rw [hz2] at cy
                  have CP := Lib.hid (fun d => put_any b g n q2 z2 (wr.drewN d) (hq2'.drewN d) hq2)
                  have j0 : (0 : Int) ≤ (j2 : Int) := by omega
                  subst hA2
                  clear hcell hbelow hz2 hq2'
                  gi_wp2
                  gi_region_with_o (refine ⟨trivial, ?_⟩; gi_at_call 14; refine (CallsIn.inRound l (callsIn_wide.2 (CP.out _))).mono ?_; rintro e w9 ⟨⟨y1, rfl⟩, hq9, hb9⟩; have HQ9 := Lib.hid hq9; have HB9 : Hid (But (fun k => k = b ∨ k = g) wr w9) := Lib.hid ⟨hb9.os, hb9.tape, hb9.output, hb9.size, hb9.block⟩; clear hq9 hb9)
                  all_goals (
                    gi_wp2
                    go_roundw
                    case rel => exact ⟨j2 + 1, by omega, by go_num, HQ9.out, HBy.out.trans (HB9.out.weaken (fun k hk => by rcases hk with rfl | rfl; exact .inr (.inr (.inl rfl)); exact .inr (.inr (.inr rfl)))), HB9.out.row HNY.out (by omega), HB9.out.row HKY.out (by omega)⟩
                    case measure => simp [intOf]; omega)
                · have hx : (¬ (j2 : Int) < (k2 : Int)) ∨ ((j2 : Int) < (k2 : Int) ∧ ¬ (j2 : Int) < 101) := by omega
                  clear hc hq2'
                  rcases hx with hx | ⟨hx1, hx⟩
                  all_goals (
                    gi_wp2
                    exact HFin.out _ HBy.out HNY.out HKY.out HQY.out))
      · have e0 : ((m : Int) + 1 == 1) = false := beq_eq_false_iff_ne.2 (by omega)
        gi_wp2
        exact HFin.out _ (But.refl _ _) HE2.out HE1.out HQ3.out
    · gi_upto_region 24 with (fail)
      have e1 := HOKs.out _ rfl
      have e2 := HNs.out (x == yv)
      have e3 := HBs.out (x == yv)
      simp only [Bool.true_and] at e1
      have HQ3 := Lib.hid (HBr2.out (x == yv))
      generalize (W.setCell ⟨bn + 1, 0, none⟩ (.bool (x == yv))).setCell ⟨bn, 0, none⟩ (.int .i64 ((m : Int) + 1)) = W2 at *
      have HFin : Hid (∀ W3, But (fun k => k = bn ∨ k = bn + 1 ∨ k = b ∨ k = g) W2 W3 → Row W3 bn 3 [.int .i64 ((pre ++ [x]).length : Nat)] → Row W3 (bn + 1) 4 [.bool (okV xs (pre ++ [x]))] → (∃ q, Ring W3 64 3 b g n (ints q)) →
          KeepsOthers W W3 ∧ KeptBut (fun k => k = bn ∨ k = bn + 1 ∨ k = b ∨ k = g) W W3 ∧ SeenI n b g bn (bn + 1) br bo outs A2 k2 c2 (some ⟨gt, 0, none⟩) t ct xs (pre ++ [x]) W3 ∧ Below w.heap.size w W3) := Lib.hid (fun W3 h h1 h2 h3 => by
        have hb := e3.trans h
        exact ⟨hb.others HS.out, hb.keeps, HI.out.but hb h1 h2 h3 HFar.out (fun k hk hk2 hs => by rcases hs with rfl | rfl | rfl | rfl <;> omega), hb.below HBb.out HBb.out.size (fun k hk => by rcases hk with rfl | rfl | rfl | rfl <;> omega)⟩)
      have c1' : W2.cell? ⟨bn, 0, none⟩ = some (.int .i64 ((m : Int) + 1)) := by
        have := e2.cell 0
        rw [HPL.out] at this
        exact this
      have HE1 := Lib.hid e1
      have HE2 := Lib.hid e2
      have HE3 := Lib.hid e3
      clear e1 e2 e3 a1 a1f a2 a2f a3 a4
      by_cases hm1 : m = 0
      · have e0 : ((m : Int) + 1 == 1) = true := beq_iff_eq.2 (by omega)
        clear hm1
        have co : W2.cell? ⟨bo, 0, none⟩ = some (.int .i64 outs) := (HE3.out.row HI.out.2.2.2.2.1 HFar.out.2.1).cell 0
        gi_wp2
        gi_loopw [15] (fun i wx => ∃ j : Nat, j ≤ 101 ∧ i = .int .i64 j ∧ (∃ q, Ring wx 64 3 b g n (ints q)) ∧ But (fun k => k = bn ∨ k = bn + 1 ∨ k = b ∨ k = g) W2 wx ∧ Row wx bn 3 [.int .i64 ((pre ++ [x]).length : Nat)] ∧ Row wx (bn + 1) 4 [.bool (okV xs (pre ++ [x]))]) (fun i _ => 101 - (intOf i).toNat)
        case atStart => exact ⟨0, by omega, rfl, HQ3.out, But.refl _ _, HE2.out, HE1.out⟩
        case round =>
          obtain ⟨j, hj, rfl, ⟨q, hq⟩, hbx, hnx, hkx⟩ := hrel
          have cox : wr.cell? ⟨bo, 0, none⟩ = some (.int .i64 outs) := (hbx.row (HE3.out.row HI.out.2.2.2.2.1 HFar.out.2.1) HFar.out.2.1).cell 0
          have crx : wr.cell? ⟨br, 0, none⟩ = some (.pointer (some ⟨b, 0, none⟩)) := (hbx.row (HE3.out.row HI.out.2.2.2.1 HFar.out.1) HFar.out.1).cell 0
          have cix : wr.cell? ⟨bo + 1, 0, none⟩ = some (.slice A2 k2 c2) := (hbx.row (HE3.out.row HI.out.2.2.2.2.2.1 HFar.out.2.2.1) HFar.out.2.2.1).cell 0
          have HBx := Lib.hid hbx
          have HNX := Lib.hid hnx
          have HKX := Lib.hid hkx
          have HQX : Hid (∃ q, Ring wr 64 3 b g n (ints q)) := Lib.hid ⟨q, hq⟩
          have CK := Lib.hid (take_any b g n q wr hq hq2)
          clear hq hbx hnx hkx co
          by_cases hc : (j : Int) < outs ∧ (j : Int) < 101
          · obtain ⟨hc1, hc2⟩ := hc
            gi_wp2_with (refine ⟨trivial, ?_⟩; gi_at_call 16; refine (CallsIn.inRound l (callsIn_wide.2 CK.out)).mono ?_; rintro e w9 ⟨⟨x1, y1, rfl⟩, hq9, hb9⟩; have HQ9 := Lib.hid hq9; have HB9 := Lib.hid hb9; clear hq9 hb9)
            go_roundw
            case rel => exact ⟨j + 1, by omega, by go_num, HQ9.out, HBx.out.trans (HB9.out.weaken (fun k hk => by rcases hk with rfl | rfl; exact .inr (.inr (.inl rfl)); exact .inr (.inr (.inr rfl)))), HB9.out.row HNX.out (by omega), HB9.out.row HKX.out (by omega)⟩
            case measure => simp [intOf]; omega
          · have hx : (¬ (j : Int) < outs) ∨ ((j : Int) < outs ∧ ¬ (j : Int) < 101) := by omega
            clear hc
            rcases hx with hx | ⟨hx1, hx⟩
            all_goals (
              gi_wp2
              gi_loopw [16] (fun i wy => ∃ j2 : Nat, j2 ≤ 101 ∧ i = .int .i64 j2 ∧ (∃ q, Ring wy 64 3 b g n (ints q)) ∧ But (fun k => k = bn ∨ k = bn + 1 ∨ k = b ∨ k = g) W2 wy ∧ Row wy bn 3 [.int .i64 ((pre ++ [x]).length : Nat)] ∧ Row wy (bn + 1) 4 [.bool (okV xs (pre ++ [x]))]) (fun i _ => 101 - (intOf i).toNat)
              case atStart => exact ⟨0, by omega, rfl, HQX.out, HBx.out, HNX.out, HKX.out⟩
              case round =>
                obtain ⟨j2, hj2, rfl, ⟨q2, hq2'⟩, hby, hny, hky⟩ := hrel
                have cry : wr.cell? ⟨br, 0, none⟩ = some (.pointer (some ⟨b, 0, none⟩)) := (hby.row (HE3.out.row HI.out.2.2.2.1 HFar.out.1) HFar.out.1).cell 0
                have ciy : wr.cell? ⟨bo + 1, 0, none⟩ = some (.slice A2 k2 c2) := (hby.row (HE3.out.row HI.out.2.2.2.2.2.1 HFar.out.2.2.1) HFar.out.2.2.1).cell 0
                have HBy := Lib.hid hby
                have HNY := Lib.hid hny
                have HKY := Lib.hid hky
                have HQY : Hid (∃ q, Ring wr 64 3 b g n (ints q)) := Lib.hid ⟨q2, hq2'⟩
                clear hby hny hky cox crx cix
                by_cases hc : (j2 : Int) < (k2 : Int) ∧ (j2 : Int) < 101
                · obtain ⟨hc1, hc2⟩ := hc
                  obtain ⟨ad2, hA2, hcell⟩ := HYS.out.at_ (by omega)
                  have hbelow : Below w.heap.size w wr := (HE3.out.trans HBy.out).below HBb.out HBb.out.size (fun k hk => by rcases hk with rfl | rfl | rfl | rfl <;> omega)
                  have cy := (hbelow.cell (p := ad2.add j2) (cell_lt (hcell j2 (by omega)))).trans (hcell j2 (by omega))
                  obtain ⟨z2, hz2⟩ : ∃ z2, ys.getD j2 0 = z2 := ⟨_, rfl⟩
                  rw [hz2] at cy
                  have CP := Lib.hid (fun d => put_any b g n q2 z2 (wr.drewN d) (hq2'.drewN d) hq2)
                  have j0 : (0 : Int) ≤ (j2 : Int) := by omega
                  subst hA2
                  clear hcell hbelow hz2 hq2'
                  gi_wp2
                  gi_region_with_o (refine ⟨trivial, ?_⟩; gi_at_call 14; refine (CallsIn.inRound l (callsIn_wide.2 (CP.out _))).mono ?_; rintro e w9 ⟨⟨y1, rfl⟩, hq9, hb9⟩; have HQ9 := Lib.hid hq9; have HB9 : Hid (But (fun k => k = b ∨ k = g) wr w9) := Lib.hid ⟨hb9.os, hb9.tape, hb9.output, hb9.size, hb9.block⟩; clear hq9 hb9)
                  all_goals (
                    gi_wp2
                    go_roundw
                    case rel => exact ⟨j2 + 1, by omega, by go_num, HQ9.out, HBy.out.trans (HB9.out.weaken (fun k hk => by rcases hk with rfl | rfl; exact .inr (.inr (.inl rfl)); exact .inr (.inr (.inr rfl)))), HB9.out.row HNY.out (by omega), HB9.out.row HKY.out (by omega)⟩
                    case measure => simp [intOf]; omega)
                · have hx : (¬ (j2 : Int) < (k2 : Int)) ∨ ((j2 : Int) < (k2 : Int) ∧ ¬ (j2 : Int) < 101) := by omega
                  clear hc hq2'
                  rcases hx with hx | ⟨hx1, hx⟩
                  all_goals (
                    gi_wp2
                    exact HFin.out _ HBy.out HNY.out HKY.out HQY.out))
      · have e0 : ((m : Int) + 1 == 1) = false := beq_eq_false_iff_ne.2 (by omega)
        gi_wp2
        exact HFin.out _ (But.refl _ _) HE2.out HE1.out HQ3.out
end Go.Proofs.Ytkoepaagdaconaa
