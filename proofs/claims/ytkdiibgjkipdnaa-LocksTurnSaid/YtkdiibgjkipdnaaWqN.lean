/-
  Put of a book: a wait more in a row that there is.
-/
import Derived.Test.YtkdiibgjkipdnaaWqM
namespace Go.Proofs.Ytkdiibgjkipdnaa
open Go.RowKit Go.Maps
set_option linter.unusedSimpArgs false

theorem run_eql_some_nil (a : Addr) (w : World) : (binOp .eql 92 (.pointer (some a)) (.pointer none)).run Try.prog w = .ok (.bool false) w := by kernel_rfl
theorem run_eqlr_some_nil (a : Addr) (w : World) : (binOp .eql 91 (.pointer (some a)) (.pointer none)).run Try.prog w = .ok (.bool false) w := by kernel_rfl
theorem nxt_last {l : List Nd} {y : Nd} (h : l.getLast? = some y) (hn : (l.map (·.blk)).Nodup) : nxt l y.blk = none := by
  obtain ⟨l', rfl⟩ := getLast_split h
  rw [List.map_append, List.nodup_append] at hn
  exact nxt_at_mid (m := []) (fun e => (hn.2.2 _ e _ (by simp)) rfl)
theorem rowOf_last {bp : Nat} {B : Bk} (h : BookOk bp B) {k : Key} {y : Nd} (hy : (inRow k B.N).getLast? = some y) : rowOf B.N k = some y.rb := by
  unfold rowOf
  obtain ⟨h1, h2⟩ := inRow_mem (List.mem_of_mem_getLast? hy)
  cases hh : (inRow k B.N).head? with
  | none => rw [List.head?_eq_none_iff] at hh; rw [hh] at hy; cases hy
  | some x =>
    obtain ⟨h3, h4⟩ := head_row hh
    rw [Option.map_some, (h.same x h3 y h1).2 (h4.trans h2.symm)]
set_option maxHeartbeats 8000000 in
set_option maxRecDepth 100000 in
theorem putOld_c (bp : Nat) (B : Bk) (k : Key) (hs hg arm vn vs vg : Int) (w : World) (h : BookAt w bp B) (hsm : sameH hs hg 0 0 = false) (hk : ¬ (k.d < 1 ∨ 4 < k.d)) (hno : ∀ x ∈ B.N, hits hs hg arm x = false)
    (hrc : PutOk k hs hg arm vn vs vg) (hgl : B.gens.length ≤ 99999) (hpl : B.put ≤ 99999) (hml : B.mn ≤ 99999) (hnl : B.N.length ≤ 99999) (y : Nd) (hrow : (inRow k B.N).getLast? = some y) :
    Calls Try.prog 23 #[.pointer (some ⟨bp, 0, none⟩), .agg #[.int .u32 k.s, .int .u32 k.g, .int .i64 k.d], .agg #[.int .u32 hs, .int .u32 hg], .int .i64 arm, .agg #[.int .i64 vn, .int .u32 vs, .int .u32 vg]] w (PutTo w bp B k hs hg arm vn vs vg) := by
  have HROW := Lib.hid hrow
  clear hrow
  have H0 := Lib.hid h
  have H1 := Lib.hid (PutIn.made w k hs hg vn vs vg)
  have H2 := Lib.hid (h.below H1.out.below)
  have c0 := H1.out.who.cell 0
  have c1 := H1.out.who.cell 1
  have b2 := H1.out.at_.cell 2
  dsimp only [List.getElem?_cons_zero, List.getElem?_cons_succ] at c0 c1 b2
  obtain ⟨_, k1, _⟩ := H2.out.fields
  obtain ⟨A, c, hsv, hcell⟩ := H2.out.ptrs
  have HC := Lib.hid hcell
  rw [hsv] at k1
  have hfew := h.ok.few
  obtain ⟨n, hn⟩ : ∃ n, B.gens.length = n := ⟨_, rfl⟩
  have HNN := Lib.hid hn
  rw [hn] at HC hfew k1
  have e1 := fun w => run_eql_handle hs hg 0 0 w
  rw [hsm] at e1
  have hzw : w.heap.size ≤ w.heap.size + 3 := by omega
  have t1 : decide (k.d < 1) = false := decide_eq_false (by omega)
  have t2 : decide (4 < k.d) = false := decide_eq_false (by omega)
  have HNO := Lib.hid hno
  have HKO := Lib.hid hrc
  have HB1 := Lib.hid hgl
  have HB2 := Lib.hid hpl
  have HB3 := Lib.hid hml
  have hw3 : wrap64 (((B.N.length : Nat) : Int) + 1) = ((B.N.length : Nat) : Int) + 1 := by unfold wrap64; omega
  clear hsm h hsv hcell hn hk hno hrc hgl hpl hml hnl
  go_enter Try.func23, Try.ntmps23
  go_wp2_with fail
  generalize ((((w.alloc (.cells #[.int .u32 k.s, .int .u32 k.g, .int .i64 k.d] 60)).alloc (.cells #[.int .u32 hs, .int .u32 hg] 35)).alloc (.cells #[.int .i64 vn, .int .u32 vs, .int .u32 vg] 43)).alloc (.cells #[.int .u32 0, .int .u32 0] 35)) = w1 at *
  clear b2
  go_loopw [42, 13] (fun x y wr => ∃ j d : Nat, j ≤ n ∧ x = .int .i64 j ∧ wr = w1.drewN d) (fun x _ _ => n - (intOf x).toNat)
  case atStart => exact ⟨0, 0, by omega, rfl, rfl⟩
  case round =>
    obtain ⟨j, d, hj, rfl, hwr⟩ := hrel
    have j0 : (0 : Int) ≤ (j : Int) := by omega
    have HN2 : Hid (∀ e, wr.drewN e = w1.drewN (d + e)) := Lib.hid fun e => by rw [hwr, World.drewN_drewN]
    by_cases hjn : j < n
    · have dlt : decide ((j : Int) < (n : Int)) = true := decide_eq_true (by omega)
      have c0 : wr.cell? ⟨w.heap.size + 1, 0, none⟩ = some (.int .u32 hs) := by rw [hwr]; exact c0
      have c1 : wr.cell? ⟨w.heap.size + 1, 1, none⟩ = some (.int .u32 hg) := by rw [hwr]; exact c1
      obtain ⟨g, hA, hcell⟩ := HC.out j (slotOf B.N j) (slotsL_get hjn)
      have hcell : wr.cell? ⟨g, j, none⟩ = some (pt (slotOf B.N j)) := by rw [hwr]; exact hcell
      cases hso : slotOf B.N j with
      | none =>
        rw [hso] at hcell
        simp only [pt] at hcell
        subst hA
        clear hwr hso k1
        go_wp2_with fail
        go_quiet (fail)
        go_wp2_with fail
        go_roundw
        case rel => exact ⟨j + 1, _, by omega, by go_num, HN2.out _⟩
        case measure => simp [intOf] <;> omega
      | some b =>
        obtain ⟨x, hx, hxi, hxb⟩ := slotOf_some hso
        rw [hso] at hcell
        simp only [pt] at hcell
        have hxr := (H2.out.mem.node x hx).drewN d
        rw [← hwr] at hxr
        obtain ⟨a0, a1, a2, a3, a4, a5, a6, a7, _⟩ := Nd.at_ hxr
        rw [hxb] at a2 a3 a7
        have e2 := fun w => run_eql_handle x.rc.hs x.rc.hg hs hg w
        have hnh := HNO.out x hx
        subst hA
        by_cases h1 : sameH x.rc.hs x.rc.hg hs hg = true
        · rw [h1] at e2
          have t4 : (x.rc.arm == arm) = false := by unfold hits at hnh; rw [h1, Bool.true_and] at hnh; exact hnh
          have t3 : decide (x.rc.arm = arm) = false := decide_eq_false (by simpa using t4)
          clear hwr hso k1 hnh h1 hxr a0 a1 a4 a5 a6
          go_wp2_with fail
          go_quiet (fail)
          go_wp2_with fail
          go_roundw
          case rel => exact ⟨j + 1, _, by omega, by go_num, HN2.out _⟩
          case measure => simp [intOf] <;> omega
        · have h1 : sameH x.rc.hs x.rc.hg hs hg = false := by rw [← Bool.not_eq_true]; exact h1
          rw [h1] at e2
          clear hwr hso k1 hnh h1 hxr a0 a1 a4 a5 a6
          go_wp2_with fail
          go_quiet (fail)
          go_wp2_with fail
          go_roundw
          case rel => exact ⟨j + 1, _, by omega, by go_num, HN2.out _⟩
          case measure => simp [intOf] <;> omega
    · have dlt : decide ((j : Int) < (n : Int)) = false := decide_eq_false (by omega)
      have HBW : Hid (Below w.heap.size w wr) := Lib.hid (by rw [hwr]; exact below_drewN H1.out.below d)
      have HI : Hid (PutIn w wr k hs hg vn vs vg) := Lib.hid (by rw [hwr]; exact ⟨below_drewN H1.out.below d, H1.out.at_.drewN d, H1.out.who.drewN d, H1.out.v.drewN d, H1.out.res.drewN d⟩)
      clear hwr HN2 c0 c1 k1 HC H1 H2 HNO
      have CS := Lib.hid (slot_c bp B wr (H0.out.below HI.out.below) HB1.out)
      go_wp2_with fail
      refine CS.out.mono ?_
      rintro e w3 ⟨i, B1, rfl, hto, hN1, hput1, hmp1, hmn1, hgens1, hfree, hleast⟩
      have hown : ∀ b, w.heap.size ≤ b → ¬ B.own bp b := fun b hb ho => by have := H0.out.mem.lt ho; omega
      have hat3 := hto.but.row HI.out.at_ (hown _ (by omega))
      have hwho3 := hto.but.row HI.out.who (hown _ (by omega))
      have hv3 := hto.but.row HI.out.v (hown _ (by omega))
      have hres3 := hto.but.row HI.out.res (hown _ (by omega))
      have hsz3 : w.heap.size ≤ w3.heap.size := Nat.le_trans HBW.out.size hto.but.size
      obtain ⟨g, hgi⟩ : ∃ g, B1.gens[i]? = some g := ⟨_, List.getElem?_eq_getElem hgens1.2⟩
      have HTO := Lib.hid (BookTo.after HBW.out H0.out hto)
      have H3 := Lib.hid hto.at_
      have hgr := H3.out.ok.gens g (List.mem_of_getElem? hgi)
      have hpr := H3.out.ok.fewp
      have hn1 := H3.out.ok.few
      rw [hput1] at hgr hpr
      have hw1 : IntKind.u32.wrap (g + 1) = g + 1 := by simp [IntKind.wrap, IntKind.bits, IntKind.signed]; omega
      obtain ⟨A2, d2, hgv, hgc⟩ := own_form H3.out.mem.gen
      obtain ⟨gb, hA2, hgcell, hgfz⟩ := hgc i (.int .u32 g) (by rw [List.getElem?_map, hgi]; rfl)
      subst hA2
      obtain ⟨A4, d4, hsv, hsc⟩ := own_form H3.out.mem.slots
      obtain ⟨sb, hA4, _, hsfz⟩ := hsc i _ (slotCells_get hgens1.2)
      subst hA4
      have f2 := H3.out.fields.2.2.1
      rw [hgv] at f2
      have hgbp : gb ≠ bp := fun e => H3.out.ok.bp_ne (b := gb) (k := 3) (H3.out.ok.t3 gb (by rw [hgv]; rfl)) (by decide) e.symm
      have hsbp : sb ≠ bp := fun e => H3.out.ok.bp_ne (b := sb) (k := 2) (H3.out.ok.t2 sb (by rw [hsv]; rfl)) (by decide) e.symm
      have hgsb : gb ≠ sb := fun e => by
        have u1 := H3.out.ok.t3 gb (by rw [hgv]; rfl)
        have u2 := H3.out.ok.t2 sb (by rw [hsv]; rfl)
        rw [e, u2] at u1; cases u1
      have HLOC : Hid (∀ b, w.heap.size ≤ b → b < wr.heap.size → ¬ three bp gb sb b) := Lib.hid fun b hb1 hb2 ht => by
        have : B1.own bp b := by
          rcases ht with e | e | e
          · exact .inl e
          · exact .inr (.inr (.inr (.inl (by rw [hgv, e]; rfl))))
          · exact .inr (.inr (.inl (by rw [hsv, e]; rfl)))
        rcases hto.own b this with e | e
        · exact hown b hb1 e
        · omega
      have HLO : Hid (∀ b, w.heap.size ≤ b → b < wr.heap.size → ¬ B1.own bp b) := Lib.hid fun b hb1 hb2 ht => by
        rcases hto.own b ht with e | e
        · exact hown b hb1 e
        · omega
      have HLT3 : Hid (w.heap.size + 3 < wr.heap.size) := Lib.hid HI.out.res.lt
      have hgbl : gb < w3.heap.size := (H3.out.mem.gen.lt gb (by rw [hgv]; rfl)).2
      have hsbl : sb < w3.heap.size := (H3.out.mem.slots.lt sb (by rw [hsv]; rfl)).2
      have hbpl : bp < w3.heap.size := H3.out.mem.book.lt
      have hG3 := H3.out.mem.gen
      rw [hgv] at hG3
      have hS3 := H3.out.mem.slots
      rw [hsv] at hS3
      have hR3 := H3.out.mem.book
      rw [hgv, hsv, hN1, hput1] at hR3
      have i0 : (0 : Int) ≤ (i : Int) := by omega
      have i1 : (i : Int) < (B1.gens.length : Nat) := by have := hgens1.2; omega
      obtain ⟨n1, hn1e⟩ : ∃ n1, B1.gens.length = n1 := ⟨_, rfl⟩
      rw [hn1e] at hR3 hG3 hS3 hgv hsv f2 i1 hn1 hgens1
      have HN1E := Lib.hid hn1e
      have HGV := Lib.hid hgv
      have HSV := Lib.hid hsv
      have HAT3 := Lib.hid hat3
      have HWHO3 := Lib.hid hwho3
      have HV3 := Lib.hid hv3
      have HRES3 := Lib.hid hres3
      have HG3 := Lib.hid hG3
      have HS3 := Lib.hid hS3
      have HR3 := Lib.hid hR3
      have HN1 := Lib.hid hN1
      have HP1 := Lib.hid hput1
      have HMP1 := Lib.hid hmp1
      have HMN1 := Lib.hid hmn1
      have HGE1 := Lib.hid hgens1
      have HFREE := Lib.hid hfree
      have HLEAST := Lib.hid hleast
      have HGI := Lib.hid hgi
      clear hto hat3 hwho3 hv3 hres3 hgv hsv hG3 hS3 hR3 hn1e hN1 hput1 hmp1 hmn1 hgens1 hfree hleast hgi hgc hsc CS
      go_upto_region 15 with fail
      have hB4 : But (three bp gb sb) w3 (w3.setCell ⟨gb, i, none⟩ (.int .u32 (g + 1))) := (But.refl _ _).set ⟨gb, i, none⟩ _ (.inr (.inl rfl))
      have hR4 := HR3.out.far (p := ⟨gb, i, none⟩) (v := .int .u32 (g + 1)) hgbp.symm
      have hG4 := (HG3.out.stored i (.int .u32 (g + 1))).1
      have hS4 := own_set_ne (b := gb) (o := i) (x := .int .u32 (g + 1)) HS3.out (fun e => hgsb (Option.some.inj e).symm)
      generalize w3.setCell ⟨gb, i, none⟩ (.int .u32 (g + 1)) = w4 at *
      have p3 := hR4.cell 3
      have q3 := hR4.frozen 3
      simp only [List.getElem?_cons_zero, List.getElem?_cons_succ] at p3
      have HB4 := Lib.hid hB4
      have HR4 := Lib.hid hR4
      have HG4 := Lib.hid hG4
      have HS4 := Lib.hid hS4
      clear hB4 hR4 hG4 hS4 hgcell hgfz hsfz f2
      go_upto_region 16 with fail
      have hB5 := HB4.out.set ⟨bp, 3, none⟩ (.int .i64 (B.put + 1)) (.inl rfl)
      have hR5 := HR4.out.set 3 (.int .i64 (B.put + 1))
      have hG5 := own_set_ne (b := bp) (o := 3) (x := .int .i64 (B.put + 1)) HG4.out (fun e => hgbp (Option.some.inj e))
      have hS5 := own_set_ne (b := bp) (o := 3) (x := .int .i64 (B.put + 1)) HS4.out (fun e => hsbp (Option.some.inj e))
      simp only [List.set_cons_zero, List.set_cons_succ] at hR5
      generalize w4.setCell ⟨bp, 3, none⟩ (.int .i64 (B.put + 1)) = w5 at *
      have p4 := hR5.cell 4
      have q4 := hR5.frozen 4
      simp only [List.getElem?_cons_zero, List.getElem?_cons_succ] at p4
      have HB5 := Lib.hid hB5
      have HR5 := Lib.hid hR5
      have HG5 := Lib.hid hG5
      have HS5 := Lib.hid hS5
      clear hB5 hR5 hG5 hS5 p3 q3 HB4 HR4 HG4 HS4
      go_upto_region 17 with fail
      have hB6 := HB5.out.set ⟨bp, 4, none⟩ (.int .i64 ((B.N.length : Nat) + 1)) (.inl rfl)
      have hR6 := HR5.out.set 4 (.int .i64 ((B.N.length : Nat) + 1))
      have hG6 := own_set_ne (b := bp) (o := 4) (x := .int .i64 ((B.N.length : Nat) + 1)) HG5.out (fun e => hgbp (Option.some.inj e))
      have hS6 := own_set_ne (b := bp) (o := 4) (x := .int .i64 ((B.N.length : Nat) + 1)) HS5.out (fun e => hsbp (Option.some.inj e))
      simp only [List.set_cons_zero, List.set_cons_succ] at hR6
      generalize w5.setCell ⟨bp, 4, none⟩ (.int .i64 ((B.N.length : Nat) + 1)) = w6 at *
      have p2 := hR6.cell 2
      simp only [List.getElem?_cons_zero, List.getElem?_cons_succ] at p2
      have pg : w6.cell? ⟨gb, i, none⟩ = some (.int .u32 (g + 1)) := by
        rw [hG6.cellAt i (by omega)]
        exact getElem?_set_same (by rw [List.length_map, HN1E.out]; omega)
      have hsz6 : w3.heap.size ≤ w6.heap.size := hB6.size
      have hw2 : IntKind.u32.wrap ((i : Int) + 1) = (i : Int) + 1 := by simp [IntKind.wrap, IntKind.bits, IntKind.signed]; omega
      have hA7 : But (three bp gb sb) w3 (w6.alloc (.cells #[.int .u32 ((i : Int) + 1), .int .u32 (g + 1)] 35)) := hB6.alloc _
      have hR7 := hR6.alloc (.cells #[.int .u32 ((i : Int) + 1), .int .u32 (g + 1)] 35)
      have hG7 := hG6.alloc (.cells #[.int .u32 ((i : Int) + 1), .int .u32 (g + 1)] 35)
      have hS7 := hS6.alloc (.cells #[.int .u32 ((i : Int) + 1), .int .u32 (g + 1)] 35)
      have hM7 := Row.new w6 35 [.int .u32 ((i : Int) + 1), .int .u32 (g + 1)]
      have HB7 := Lib.hid hA7
      have HR7 := Lib.hid hR7
      have HG7 := Lib.hid hG7
      have HS7 := Lib.hid hS7
      have HM7 := Lib.hid hM7
      clear hB6 hR6 hG6 hS6 p4 q4 HB5 HR5 HG5 HS5 hA7 hR7 hG7 hS7 hM7
      go_upto_region 18 with fail
      generalize w6.alloc (.cells #[.int .u32 ((i : Int) + 1), .int .u32 (g + 1)] 35) = w7 at *
      have HZM : Hid (w3.heap.size ≤ w6.heap.size) := Lib.hid hsz6
      clear hsz6 p2 pg
      generalize w6.heap.size = zm at *
      have hm7 := HM7.out
      have hlt3 := HLT3.out
      have hat7 := HB7.out.row HAT3.out (HLOC.out _ (by omega) (by omega))
      have hwho7 := HB7.out.row HWHO3.out (HLOC.out _ (by omega) (by omega))
      have hv7 := HB7.out.row HV3.out (HLOC.out _ (by omega) (by omega))
      have m0 := hm7.cell 0
      have m1 := hm7.cell 1
      have a0 := hat7.cell 0
      have a1 := hat7.cell 1
      have a2 := hat7.cell 2
      have b0 := hwho7.cell 0
      have b1 := hwho7.cell 1
      have v0 := hv7.cell 0
      have v1 := hv7.cell 1
      have v2 := hv7.cell 2
      have p3 := HR7.out.cell 3
      simp only [List.getElem?_cons_zero, List.getElem?_cons_succ] at m0 m1 a0 a1 a2 b0 b1 v0 v1 v2 p3
      clear hm7 hat7 hwho7 hv7 hlt3
      go_still_tail 11, (by kernel_rfl)
      change wpList _ _ _ _ _ w7.drew
      clear m0 m1 a0 a1 a2 b0 b1 v0 v1 v2 p3
      have HB8 : Hid (But (three bp gb sb) w3 w7.drew) := Lib.hid (HB7.out.drewN 1)
      have HR8 := Lib.hid HR7.out.drew
      have HG8 := Lib.hid (World.ownsRow.drew HG7.out)
      have HS8 := Lib.hid (World.ownsRow.drew HS7.out)
      have HM8 := Lib.hid HM7.out.drew
      clear HB7 HR7 HG7 HS7 HM7
      generalize w7.drew = w8 at *
      go_upto_region 19 with fail
      have HB9 := Lib.hid (HB8.out.alloc (.cells #[.int .u32 ((i : Int) + 1), .int .u32 (g + 1), .int .u32 hs, .int .u32 hg, .int .u32 k.s, .int .u32 k.g, .int .i64 k.d, .int .i64 arm, .int .i64 vn, .int .u32 vs, .int .u32 vg, .int .i64 (B.put + 1), .pointer none, .pointer none] 98))
      have HR9 := Lib.hid (HR8.out.alloc (.cells #[.int .u32 ((i : Int) + 1), .int .u32 (g + 1), .int .u32 hs, .int .u32 hg, .int .u32 k.s, .int .u32 k.g, .int .i64 k.d, .int .i64 arm, .int .i64 vn, .int .u32 vs, .int .u32 vg, .int .i64 (B.put + 1), .pointer none, .pointer none] 98))
      have HG9 := Lib.hid (HG8.out.alloc (.cells #[.int .u32 ((i : Int) + 1), .int .u32 (g + 1), .int .u32 hs, .int .u32 hg, .int .u32 k.s, .int .u32 k.g, .int .i64 k.d, .int .i64 arm, .int .i64 vn, .int .u32 vs, .int .u32 vg, .int .i64 (B.put + 1), .pointer none, .pointer none] 98))
      have HS9 := Lib.hid (HS8.out.alloc (.cells #[.int .u32 ((i : Int) + 1), .int .u32 (g + 1), .int .u32 hs, .int .u32 hg, .int .u32 k.s, .int .u32 k.g, .int .i64 k.d, .int .i64 arm, .int .i64 vn, .int .u32 vs, .int .u32 vg, .int .i64 (B.put + 1), .pointer none, .pointer none] 98))
      have HM9 := Lib.hid (HM8.out.alloc (.cells #[.int .u32 ((i : Int) + 1), .int .u32 (g + 1), .int .u32 hs, .int .u32 hg, .int .u32 k.s, .int .u32 k.g, .int .i64 k.d, .int .i64 arm, .int .i64 vn, .int .u32 vs, .int .u32 vg, .int .i64 (B.put + 1), .pointer none, .pointer none] 98))
      have HN9 := Lib.hid (Row.new w8 98 [.int .u32 ((i : Int) + 1), .int .u32 (g + 1), .int .u32 hs, .int .u32 hg, .int .u32 k.s, .int .u32 k.g, .int .i64 k.d, .int .i64 arm, .int .i64 vn, .int .u32 vs, .int .u32 vg, .int .i64 (B.put + 1), .pointer none, .pointer none])
      change Hid (Row (w8.alloc (.cells #[.int .u32 ((i : Int) + 1), .int .u32 (g + 1), .int .u32 hs, .int .u32 hg, .int .u32 k.s, .int .u32 k.g, .int .i64 k.d, .int .i64 arm, .int .i64 vn, .int .u32 vs, .int .u32 vg, .int .i64 (B.put + 1), .pointer none, .pointer none] 98)) _ _ _) at HN9
      have HXB : Hid (w3.heap.size ≤ w8.heap.size) := Lib.hid HB8.out.size
      have HZX : Hid (zm < w8.heap.size) := Lib.hid HM8.out.lt
      clear HB8 HR8 HG8 HS8 HM8
      generalize w8.alloc (.cells #[.int .u32 ((i : Int) + 1), .int .u32 (g + 1), .int .u32 hs, .int .u32 hg, .int .u32 k.s, .int .u32 k.g, .int .i64 k.d, .int .i64 arm, .int .i64 vn, .int .u32 vs, .int .u32 vg, .int .i64 (B.put + 1), .pointer none, .pointer none] 98) = w9 at *
      generalize w8.heap.size = xb at *
      have p1 := HR9.out.cell 1
      have s1 := HS9.out.frozenAt i
      have s2 := HS9.out.cellAt i (by omega)
      rw [slotCells_get (by have := HGE1.out.2; have := HN1E.out; omega)] at s2
      simp only [List.getElem?_cons_zero, List.getElem?_cons_succ] at p1
      go_upto_region 20 with fail
      have hxb := HXB.out
      have hzx := HZX.out
      have hzm := HZM.out
      have hsx : sb ≠ xb := by omega
      have hsz : sb ≠ zm := by omega
      have HB10 := Lib.hid (HB9.out.set ⟨sb, i, none⟩ (.pointer (some ⟨xb, 0, none⟩)) (.inr (.inr rfl)))
      have HR10 := Lib.hid (HR9.out.far (p := ⟨sb, i, none⟩) (v := .pointer (some ⟨xb, 0, none⟩)) hsbp.symm)
      have HG10 := Lib.hid (own_set_ne (b := sb) (o := i) (x := .pointer (some ⟨xb, 0, none⟩)) HG9.out (fun e => hgsb (Option.some.inj e)))
      have HS10 := Lib.hid (HS9.out.stored i (.pointer (some ⟨xb, 0, none⟩))).1
      have HM10 := Lib.hid (HM9.out.far (p := ⟨sb, i, none⟩) (v := .pointer (some ⟨xb, 0, none⟩)) hsz.symm)
      have HN10 := Lib.hid (HN9.out.far (p := ⟨sb, i, none⟩) (v := .pointer (some ⟨xb, 0, none⟩)) hsx.symm)
      clear HB9 HR9 HG9 HS9 HM9 HN9 p1 s1 s2 hxb hzx hzm
      generalize w9.setCell ⟨sb, i, none⟩ (.pointer (some ⟨xb, 0, none⟩)) = w10 at *
      have HMAP10 : Hid (RMap w10 B.mp B.mn (rowOf B.N)) := Lib.hid (by
        have hm := H3.out.mem.map
        rw [HMP1.out, HMN1.out, HN1.out] at hm
        refine hm.move (HB10.out.block _ hm.lt ?_)
        have t := H3.out.ok.t1
        rw [HMP1.out] at t
        rintro (e | e | e)
        · have t0 := H3.out.ok.t0
          rw [← e, t] at t0; cases t0
        · have t0 := H3.out.ok.t3 gb (by rw [HGV.out]; rfl)
          rw [← e, t] at t0; cases t0
        · have t0 := H3.out.ok.t2 sb (by rw [HSV.out]; rfl)
          rw [← e, t] at t0; cases t0)
      have hlt3 := HLT3.out
      have HAT10 := Lib.hid (HB10.out.row HAT3.out (HLOC.out _ (by omega) (by omega)))
      have HRES10 := Lib.hid (HB10.out.row HRES3.out (HLOC.out _ (by omega) (by omega)))
      have HZ3 : Hid (w.heap.size + 3 < w3.heap.size) := Lib.hid HRES3.out.lt
      have p0 := HR10.out.cell 0
      have a0 := HAT10.out.cell 0
      have a1 := HAT10.out.cell 1
      have a2 := HAT10.out.cell 2
      simp only [List.getElem?_cons_zero, List.getElem?_cons_succ] at a0 a1 a2 p0
      rw [HMP1.out] at p0
      have HL : Hid (∀ d, (Instr.lookup 70 (.map (some B.mp)) (.agg #[.int .u32 k.s, .int .u32 k.g, .int .i64 k.d]) false).run Try.prog (w10.drewN d) = .ok (pt (rowOf B.N k)) (w10.drewN d)) :=
        Lib.hid fun d => (HMAP10.out.move (w' := w10.drewN d) rfl).find HKO.out.key
      clear HAT3 HWHO3 HV3 HRES3 hlt3 HLOC
      have hyN : y ∈ B.N := (inRow_mem (List.mem_of_mem_getLast? HROW.out)).1
      have hyk : y.rc.key = k := (inRow_mem (List.mem_of_mem_getLast? HROW.out)).2
      have hy1 : y ∈ B1.N := by rw [HN1.out]; exact hyN
      have hyt := H3.out.ok.t4 y hy1
      have hyr := H3.out.ok.t5 y hy1
      have hro : rowOf B.N k = some y.rb := rowOf_last H0.out.ok HROW.out
      have hy3 := H3.out.mem.node y hy1
      have hw3' := H3.out.mem.row y hy1
      rw [HN1.out, hyk] at hy3 hw3'
      rw [nxt_last HROW.out (inRow_blks H0.out.ok.blks k)] at hy3
      rw [HROW.out] at hw3'
      change Row _ _ _ [_, .pointer (some ⟨y.blk, 0, none⟩)] at hw3'
      have hrbo := HLO.out
      obtain ⟨rb, hrbe⟩ : ∃ rb, y.rb = rb := ⟨_, rfl⟩
      obtain ⟨yb, hybe⟩ : ∃ yb, y.blk = yb := ⟨_, rfl⟩
      have ryo : B1.own bp rb := .inr (.inr (.inr (.inr ⟨y, hy1, .inr hrbe.symm⟩)))
      have yyo : B1.own bp yb := .inr (.inr (.inr (.inr ⟨y, hy1, .inl hybe.symm⟩)))
      rw [hybe] at hyt hw3'
      rw [hrbe] at hyr hro hw3'
      have hrl : rb < w3.heap.size := hw3'.lt
      have hyl : yb < w3.heap.size := by rw [← hybe]; exact hy3.lt
      have n1 : rb ≠ bp := fun e => by have := H3.out.ok.t0; rw [← e, hyr] at this; cases this
      have n2 : yb ≠ bp := fun e => by have := H3.out.ok.t0; rw [← e, hyt] at this; cases this
      have n3 : rb ≠ gb := fun e => by have := H3.out.ok.t3 gb (by rw [HGV.out]; rfl); rw [← e, hyr] at this; cases this
      have n4 : yb ≠ gb := fun e => by have := H3.out.ok.t3 gb (by rw [HGV.out]; rfl); rw [← e, hyt] at this; cases this
      have n5 : rb ≠ sb := fun e => by have := H3.out.ok.t2 sb (by rw [HSV.out]; rfl); rw [← e, hyr] at this; cases this
      have n6 : yb ≠ sb := fun e => by have := H3.out.ok.t2 sb (by rw [HSV.out]; rfl); rw [← e, hyt] at this; cases this
      have n7 : rb ≠ B.mp := fun e => by have := H3.out.ok.t1; rw [HMP1.out, ← e, hyr] at this; cases this
      have n8 : yb ≠ B.mp := fun e => by have := H3.out.ok.t1; rw [HMP1.out, ← e, hyt] at this; cases this
      have n9 : rb ≠ yb := fun e => by rw [e, hyt] at hyr; cases hyr
      have hlt3 := HLT3.out
      have n10 : rb ≠ w.heap.size + 3 := fun e => hrbo (w.heap.size + 3) (by omega) (by omega) (e ▸ ryo)
      have n11 : yb ≠ w.heap.size + 3 := fun e => hrbo (w.heap.size + 3) (by omega) (by omega) (e ▸ yyo)
      have nr : ¬ three bp gb sb rb := by rintro (e | e | e) <;> omega
      have ny : ¬ three bp gb sb yb := by rintro (e | e | e) <;> omega
      have HW10 := Lib.hid (HB10.out.row hw3' nr)
      have HY10 := Lib.hid (HB10.out.row hy3 (by rw [hybe]; exact ny))
      have HYE := Lib.hid hybe
      have HRE := Lib.hid hrbe
      have HRO := Lib.hid hro
      have HYN := Lib.hid hyN
      have HYK := Lib.hid hyk
      rw [hybe] at HY10
      rw [hro] at HL
      have hl := HL.out
      simp only [pt] at hl
      have hl0 := hl 0
      rw [World.drewN_zero] at hl0
      clear hro HL hyN hyk hy1 hyt hyr hy3 hw3' hrbo hrbe hybe ryo yyo nr ny hlt3
      go_quiet (fail)
      have HB11 : Hid (But (fun b => three bp gb sb b ∨ b = rb ∨ b = yb) w3 (w10.drewN nq)) := Lib.hid ((HB10.out.drewN nq).weaken fun b h => .inl h)
      have HR11 := Lib.hid (HR10.out.drewN nq)
      have HG11 := Lib.hid (own_move (w' := w10.drewN nq) HG10.out fun _ _ => rfl)
      have HS11 := Lib.hid (own_move (w' := w10.drewN nq) HS10.out fun _ _ => rfl)
      have HM11 := Lib.hid (HM10.out.drewN nq)
      have HN11 := Lib.hid (HN10.out.drewN nq)
      have HRES11 := Lib.hid (HRES10.out.drewN nq)
      have HW11 := Lib.hid (HW10.out.drewN nq)
      have HY11 := Lib.hid (HY10.out.drewN nq)
      have HMAP11 := Lib.hid (HMAP10.out.move (w' := w10.drewN nq) rfl)
      clear hl hl0 HB10 HR10 HG10 HS10 HM10 HN10 HAT10 HRES10 HMAP10 HW10 HY10 p0 a0 a1 a2
      generalize w10.drewN nq = w11 at *
      have hez := fun w => run_eqlr_some_nil ⟨rb, 0, none⟩ w
      have r1 := HW11.out.cell 1
      have n12 := HN11.out.cell 12
      have m12 := HN11.out.frozen 12
      simp only [List.getElem?_cons_zero, List.getElem?_cons_succ] at r1 n12
      have hxb := HXB.out
      have hzx := HZX.out
      have hzm := HZM.out
      have hz3 := HZ3.out
      have hlt3 := HLT3.out
      have hmpl : B.mp < w3.heap.size := by have := H3.out.mem.map.lt; rw [HMP1.out] at this; exact this
      go_upto_region 25 with fail
      clear r1 n12 m12
      have HB12 := Lib.hid (HB11.out.setNew ⟨xb, 12, none⟩ (.pointer (some ⟨yb, 0, none⟩)) hxb)
      have HR12 := Lib.hid (HR11.out.far (p := ⟨xb, 12, none⟩) (v := .pointer (some ⟨yb, 0, none⟩)) (show bp ≠ xb by omega))
      have HG12 := Lib.hid (own_set_ne (b := xb) (o := 12) (x := .pointer (some ⟨yb, 0, none⟩)) HG11.out (fun e => (show gb ≠ xb by omega) (Option.some.inj e)))
      have HS12 := Lib.hid (own_set_ne (b := xb) (o := 12) (x := .pointer (some ⟨yb, 0, none⟩)) HS11.out (fun e => (show sb ≠ xb by omega) (Option.some.inj e)))
      have HM12 := Lib.hid (HM11.out.far (p := ⟨xb, 12, none⟩) (v := .pointer (some ⟨yb, 0, none⟩)) (show zm ≠ xb by omega))
      have hHN := HN11.out.set 12 (.pointer (some ⟨yb, 0, none⟩))
      simp only [List.set_cons_zero, List.set_cons_succ] at hHN
      have HN12 := Lib.hid hHN
      clear hHN
      have HRES12 := Lib.hid (HRES11.out.far (p := ⟨xb, 12, none⟩) (v := .pointer (some ⟨yb, 0, none⟩)) (show w.heap.size + 3 ≠ xb by omega))
      have HW12 := Lib.hid (HW11.out.far (p := ⟨xb, 12, none⟩) (v := .pointer (some ⟨yb, 0, none⟩)) (show rb ≠ xb by omega))
      have HY12 := Lib.hid (HY11.out.far (p := ⟨xb, 12, none⟩) (v := .pointer (some ⟨yb, 0, none⟩)) (show yb ≠ xb by omega))
      have HMAP12 := Lib.hid (HMAP11.out.set_ne (p := xb) (o := 12) (x := .pointer (some ⟨yb, 0, none⟩)) (show B.mp ≠ xb by omega))
      clear HB11 HR11 HG11 HS11 HM11 HN11 HRES11 HW11 HY11 HMAP11
      generalize w11.setCell ⟨xb, 12, none⟩ (.pointer (some ⟨yb, 0, none⟩)) = w12 at *
      have r1 := HW12.out.cell 1
      have y13 := HY12.out.cell 13
      have z13 := HY12.out.frozen 13
      change _ = some (pt none) at y13
      simp only [List.getElem?_cons_zero, List.getElem?_cons_succ, pt] at r1 y13
      have hen := fun w => run_eql_some_nil ⟨yb, 0, none⟩ w
      go_upto_region 28 with fail
      clear r1 y13 z13 hen
      have HB13 := Lib.hid (HB12.out.set ⟨yb, 13, none⟩ (.pointer (some ⟨xb, 0, none⟩)) (.inr (.inr rfl)))
      have HR13 := Lib.hid (HR12.out.far (p := ⟨yb, 13, none⟩) (v := .pointer (some ⟨xb, 0, none⟩)) (show bp ≠ yb by omega))
      have HG13 := Lib.hid (own_set_ne (b := yb) (o := 13) (x := .pointer (some ⟨xb, 0, none⟩)) HG12.out (fun e => (show gb ≠ yb by omega) (Option.some.inj e)))
      have HS13 := Lib.hid (own_set_ne (b := yb) (o := 13) (x := .pointer (some ⟨xb, 0, none⟩)) HS12.out (fun e => (show sb ≠ yb by omega) (Option.some.inj e)))
      have HM13 := Lib.hid (HM12.out.far (p := ⟨yb, 13, none⟩) (v := .pointer (some ⟨xb, 0, none⟩)) (show zm ≠ yb by omega))
      have HN13 := Lib.hid (HN12.out.far (p := ⟨yb, 13, none⟩) (v := .pointer (some ⟨xb, 0, none⟩)) (show xb ≠ yb by omega))
      have HRES13 := Lib.hid (HRES12.out.far (p := ⟨yb, 13, none⟩) (v := .pointer (some ⟨xb, 0, none⟩)) (show w.heap.size + 3 ≠ yb by omega))
      have HW13 := Lib.hid (HW12.out.far (p := ⟨yb, 13, none⟩) (v := .pointer (some ⟨xb, 0, none⟩)) (show rb ≠ yb by omega))
      have hHY := HY12.out.set 13 (.pointer (some ⟨xb, 0, none⟩))
      change Row _ _ _ (y.cells (prv (inRow k B.N) yb) (some xb)) at hHY
      have HY13 := Lib.hid hHY
      clear hHY
      have HMAP13 := Lib.hid (HMAP12.out.set_ne (p := yb) (o := 13) (x := .pointer (some ⟨xb, 0, none⟩)) (show B.mp ≠ yb by omega))
      clear HB12 HR12 HG12 HS12 HM12 HN12 HRES12 HW12 HY12 HMAP12
      generalize w12.setCell ⟨yb, 13, none⟩ (.pointer (some ⟨xb, 0, none⟩)) = w13 at *
      have r1 := HW13.out.cell 1
      have t0 := HW13.out.frozen 1
      simp only [List.getElem?_cons_zero, List.getElem?_cons_succ] at r1
      go_upto_region 29 with fail
      clear r1 t0
      have HB14 := Lib.hid (HB13.out.set ⟨rb, 1, none⟩ (.pointer (some ⟨xb, 0, none⟩)) (.inr (.inl rfl)))
      have HR14 := Lib.hid (HR13.out.far (p := ⟨rb, 1, none⟩) (v := .pointer (some ⟨xb, 0, none⟩)) (show bp ≠ rb by omega))
      have HG14 := Lib.hid (own_set_ne (b := rb) (o := 1) (x := .pointer (some ⟨xb, 0, none⟩)) HG13.out (fun e => (show gb ≠ rb by omega) (Option.some.inj e)))
      have HS14 := Lib.hid (own_set_ne (b := rb) (o := 1) (x := .pointer (some ⟨xb, 0, none⟩)) HS13.out (fun e => (show sb ≠ rb by omega) (Option.some.inj e)))
      have HM14 := Lib.hid (HM13.out.far (p := ⟨rb, 1, none⟩) (v := .pointer (some ⟨xb, 0, none⟩)) (show zm ≠ rb by omega))
      have HN14 := Lib.hid (HN13.out.far (p := ⟨rb, 1, none⟩) (v := .pointer (some ⟨xb, 0, none⟩)) (show xb ≠ rb by omega))
      have HRES14 := Lib.hid (HRES13.out.far (p := ⟨rb, 1, none⟩) (v := .pointer (some ⟨xb, 0, none⟩)) (show w.heap.size + 3 ≠ rb by omega))
      have hHW := HW13.out.set 1 (.pointer (some ⟨xb, 0, none⟩))
      simp only [List.set_cons_zero, List.set_cons_succ] at hHW
      have HW14 := Lib.hid hHW
      clear hHW
      have HY14 := Lib.hid (HY13.out.far (p := ⟨rb, 1, none⟩) (v := .pointer (some ⟨xb, 0, none⟩)) (show yb ≠ rb by omega))
      have HMAP14 := Lib.hid (HMAP13.out.set_ne (p := rb) (o := 1) (x := .pointer (some ⟨xb, 0, none⟩)) (show B.mp ≠ rb by omega))
      clear HB13 HR13 HG13 HS13 HM13 HN13 HRES13 HW13 HY13 HMAP13
      generalize w13.setCell ⟨rb, 1, none⟩ (.pointer (some ⟨xb, 0, none⟩)) = w14 at *
      have m0 := HM14.out.cell 0
      have m1 := HM14.out.cell 1
      have d0 := HRES14.out.cell 0
      have d1 := HRES14.out.cell 1
      have f0 := HRES14.out.frozen 0
      have f1 := HRES14.out.frozen 1
      simp only [List.getElem?_cons_zero, List.getElem?_cons_succ] at m0 m1 d0 d1
      go_wp2_with fail
      have hfin := HRES14.out.store2 (a := .int .u32 ((i : Int) + 1)) (c := .int .u32 (g + 1))
      (try simp only [Exit.inBlock, Exit.then]); refine bodyPost_ret (results_cell2_row rfl _ _ (w.heap.size + 3) 35 #[.int .u32 ((i : Int) + 1), .int .u32 (g + 1)] (0, 0) _ rfl hfin Try.underlying35 rfl (by kernel_rfl)) rfl ?_
      have hE := HROW.out
      have hfew := H3.out.ok.fewm
      refine put_end (xb := xb) (rb := rb) (mn := B.mn) HTO.out HN1.out HP1.out HMP1.out HFREE.out HLEAST.out HGI.out HB2.out (by have := HB3.out; omega) (Nat.le_succ _) HGE1.out.1 HKO.out hxb (.inl ⟨y, HYN.out, HYK.out, HRE.out.symm⟩) ?_ ?_ ?_ ?_ ?_ ?_ ?_ ?_ (by omega) (HLO.out (w.heap.size + 3) (by omega) (by omega)) (by omega)
      · refine HB14.out.weaken ?_
        rintro b ((e | e | e) | e | e)
        · exact .inl e
        · exact .inr (.inr (.inr (.inl (by rw [HGV.out, e]; rfl))))
        · exact .inr (.inr (.inl (by rw [HSV.out, e]; rfl)))
        · exact .inr (.inr (.inr (.inr (.inl e))))
        · refine .inr (.inr (.inr (.inr (.inr ?_))))
          rw [HN1.out]
          change (inRow k B.N).getLast?.map (·.blk) = some b
          rw [hE, e, ← HYE.out]; rfl
      · rw [HSV.out, HGV.out]; exact HR14.out
      · have e : (fun q => if q = k then some rb else rowOf B.N q) = rowOf B.N := by
          funext q
          by_cases e : q = k
          · rw [if_pos e, e, HRO.out]
          · rw [if_neg e]
        rw [e]; exact HMAP14.out
      · rw [HSV.out, HN1E.out]; have := HS14.out; rw [HN1.out] at this; exact this
      · rw [HGV.out, HN1E.out]; exact HG14.out
      · rw [hE, Option.map_some, HYE.out]; exact HN14.out
      · have e : (inRow k B.N ++ [newNd xb rb i g k hs hg arm vn vs vg B.put]).head? = (inRow k B.N).head? := by
          cases hh : inRow k B.N with
          | nil => rw [hh] at hE; cases hE
          | cons a l => rfl
        rw [e]; exact HW14.out
      · intro z hz
        rw [hE] at hz
        have : y = z := Option.some.inj hz
        subst this
        rw [HYE.out]; exact HY14.out
end Go.Proofs.Ytkdiibgjkipdnaa
