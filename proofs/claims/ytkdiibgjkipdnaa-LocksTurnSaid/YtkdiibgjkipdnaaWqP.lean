/-
  out of a book.
-/
import Derived.Test.YtkdiibgjkipdnaaWqO
namespace Go.Proofs.Ytkdiibgjkipdnaa
open Go.RowKit Go.Maps
set_option linter.unusedSimpArgs false

theorem tag_ne {f : Nat → Nat} {a b i j : Nat} (h : f a = i) (k : f b = j) (e : i ≠ j) : a ≠ b := fun q => e (by rw [← h, ← k, q])
theorem rowOf_mem {bp : Nat} {B : Bk} (h : BookOk bp B) {x : Nd} (hx : x ∈ B.N) : rowOf B.N x.rc.key = some x.rb := by
  unfold rowOf
  cases hh : (inRow x.rc.key B.N).head? with
  | none =>
    rw [List.head?_eq_none_iff] at hh
    have := mem_inRow hx rfl
    rw [hh] at this; cases this
  | some y =>
    obtain ⟨h3, h4⟩ := head_row hh
    rw [Option.map_some, (h.same y h3 x hx).2 h4]
set_option maxHeartbeats 8000000 in
set_option maxRecDepth 100000 in
theorem outNN_c (bp : Nat) (B : Bk) (x : Nd) (w : World) (h : BookAt w bp B) (hN : B.N.length ≤ 100000) (hl : inRow x.rc.key B.N = [] ++ x :: []) :
    Calls Try.prog 29 #[.pointer (some ⟨bp, 0, none⟩), .pointer (some ⟨x.blk, 0, none⟩)] w fun e w' => e = .returned (.tuple #[]) ∧ BookTo w bp B w' (B.cut x.blk) := by
  have H0 := Lib.hid h
  have HL := Lib.hid hl
  have hin : ∀ q ∈ [] ++ x :: [], q ∈ B.N ∧ q.rc.key = x.rc.key := fun q hq => inRow_mem (by rw [hl]; exact hq)
  have hbl := inRow_blks h.ok.blks x.rc.key
  rw [hl] at hbl
  obtain ⟨hx, _⟩ := hin x (by simp)
  obtain ⟨i, hi, hgi⟩ := h.ok.slot x hx
  have hil := (List.getElem?_eq_some_iff.1 hgi).1
  have hxok := h.ok.ok x hx
  have hxr := h.mem.node x hx
  have hwr := h.mem.row x hx
  rw [hl] at hxr hwr
  have hxn : x.blk ∉ ([] : List Nd).map (·.blk) := by
    rw [List.map_append, List.map_cons, List.nodup_append] at hbl
    exact fun e => hbl.2.2 _ e _ List.mem_cons_self rfl
  rw [prv_at_mid hxn, nxt_at_mid hxn] at hxr
  obtain ⟨A4, d4, hsv, hsc⟩ := own_form h.mem.slots
  obtain ⟨sb, hA4, _, _⟩ := hsc i _ (slotCells_get hil)
  subst hA4
  have tb := h.ok.t0
  have tm := h.ok.t1
  have ts := h.ok.t2 sb (by rw [hsv]; rfl)
  have tx := h.ok.t4 x hx
  have tr := h.ok.t5 x hx
  have hbm := h.mem.book
  have hsm := h.mem.slots
  rw [hsv] at hbm hsm
  have HMAP0 := Lib.hid h.mem.map
  have HSV := Lib.hid hsv
  have HI := Lib.hid hi
  have HXN := Lib.hid hx
  have HKO := Lib.hid hxok.key
  have HR0 := Lib.hid hbm
  have HS0 := Lib.hid hsm
  have ela : ([] : List Nd).getLast?.map (fun q => q.blk) = none := by simp
  have ehd : ([] : List Nd).head?.map (fun q => q.blk) = none := by simp
  rw [ela, ehd] at hxr
  have HX0 := Lib.hid hxr
  change Row _ _ _ [_, _] at hwr
  clear ela ehd
  obtain ⟨fv, hfv⟩ : ∃ fv, pt (([] ++ x :: [] : List Nd).head?.map (·.blk)) = fv := ⟨_, rfl⟩
  obtain ⟨lv, hlv⟩ : ∃ lv, pt (([] ++ x :: [] : List Nd).getLast?.map (·.blk)) = lv := ⟨_, rfl⟩
  rw [hfv, hlv] at hwr
  have HFV := Lib.hid hfv
  have HLV := Lib.hid hlv
  have HW0 := Lib.hid hwr
  have n1 := tag_ne tb tm (by decide)
  have n2 := tag_ne tb ts (by decide)
  have n3 := tag_ne tb tx (by decide)
  have n4 := tag_ne tb tr (by decide)
  have n5 := tag_ne tm ts (by decide)
  have n6 := tag_ne tm tx (by decide)
  have n7 := tag_ne tm tr (by decide)
  have n8 := tag_ne ts tx (by decide)
  have n9 := tag_ne ts tr (by decide)
  have n10 := tag_ne tx tr (by decide)
  have HN0 := Lib.hid hN
  have HIL := Lib.hid hil
  have HB0 := Lib.hid (But.refl (cutS bp B x [] []) w)
  obtain ⟨n, hn⟩ : ∃ n, B.gens.length = n := ⟨_, rfl⟩
  have hfew := H0.out.ok.few
  rw [hn] at hil HS0 HR0 hfew
  have HNE := Lib.hid hn
  have p0 := HR0.out.cell 0
  obtain ⟨_, _, _, _, a4, a5, a6, _⟩ := Nd.at_ HX0.out
  simp only [List.getElem?_cons_zero, List.getElem?_cons_succ] at p0
  have hlk := fun d => (HMAP0.out.move (w' := w.drewN d) rfl).find HKO.out
  have hlk : ∀ d, (Instr.lookup 70 (.map (some B.mp)) (.agg #[.int .u32 x.rc.os, .int .u32 x.rc.og, .int .i64 x.rc.sd]) false).run Try.prog (w.drewN d) = .ok (.pointer (some ⟨x.rb, 0, none⟩)) (w.drewN d) := fun d => by
    have hro : rowOf B.N x.rc.key = some x.rb := rowOf_mem H0.out.ok HXN.out
    have := hlk d
    rw [hro] at this
    exact this
  have hlk0 := hlk 0
  rw [World.drewN_zero] at hlk0
  clear h hl hin hbl hx hgi hxok hxr hwr hxn hsv hsc hbm hsm hfv hlv hi hn hN
  clear tb tm ts tx tr
  go_enter Try.func29, Try.ntmps29
  go_wp2_with fail
  go_quiet (fail)
  have HB1 := Lib.hid (HB0.out.drewN nq)
  have HR1 := Lib.hid (HR0.out.drewN nq)
  have HS1 := Lib.hid (own_move (w' := w.drewN nq) HS0.out fun _ _ => rfl)
  have HX1 := Lib.hid (HX0.out.drewN nq)
  have HW1 := Lib.hid (HW0.out.drewN nq)
  have HMAP1 := Lib.hid (HMAP0.out.move (w' := w.drewN nq) rfl)
  clear p0 a4 a5 a6 hlk hlk0 HB0 HR0 HS0 HX0 HW0 HMAP0
  generalize w.drewN nq = w1 at *
  obtain ⟨x0, _, _, _, a4, a5, a6, _, _, _, _, _, x12, x13⟩ := Nd.at_ HX1.out
  simp only [pt] at x12 x13
  have r0 := HW1.out.cell 0
  have t0 := HW1.out.frozen 0
  simp only [List.getElem?_cons_zero, List.getElem?_cons_succ] at r0
  have hen := run_eql_nil_nil
  go_upto_region 4 with fail
  clear x0 a4 a5 a6 x12 x13 r0 t0 hen
  have HB2 := Lib.hid (HB1.out.set ⟨x.rb, 0, none⟩ (.pointer none) (.inr (.inr (.inr (.inl rfl)))))
  have HR2 := Lib.hid (HR1.out.far (p := ⟨x.rb, 0, none⟩) (v := .pointer none) (show bp ≠ x.rb by omega))
  have HS2 := Lib.hid (own_set_ne (b := x.rb) (o := 0) (x := .pointer none) HS1.out (fun e => (show sb ≠ x.rb by omega) (Option.some.inj e)))
  have HX2 := Lib.hid (HX1.out.far (p := ⟨x.rb, 0, none⟩) (v := .pointer none) (show x.blk ≠ x.rb by omega))
  have hHW := HW1.out.set 0 (.pointer none)
  change Row _ _ _ ([.pointer none, lv]) at hHW
  have HW2 := Lib.hid hHW
  clear hHW
  have HMAP2 := Lib.hid (HMAP1.out.set_ne (p := x.rb) (o := 0) (x := .pointer none) (show B.mp ≠ x.rb by omega))
  clear HB1 HR1 HS1 HX1 HW1 HMAP1
  generalize w1.setCell ⟨x.rb, 0, none⟩ (.pointer none) = w2 at *
  obtain ⟨x0, _, _, _, a4, a5, a6, _, _, _, _, _, x12, x13⟩ := Nd.at_ HX2.out
  simp only [pt] at x12 x13
  have r1 := HW2.out.cell 1
  have t0 := HW2.out.frozen 1
  simp only [List.getElem?_cons_zero, List.getElem?_cons_succ] at r1
  have hen := run_eql_nil_nil
  go_upto_region 7 with fail
  clear x0 a4 a5 a6 x12 x13 r1 t0 hen
  have HB3 := Lib.hid (HB2.out.set ⟨x.rb, 1, none⟩ (.pointer none) (.inr (.inr (.inr (.inl rfl)))))
  have HR3 := Lib.hid (HR2.out.far (p := ⟨x.rb, 1, none⟩) (v := .pointer none) (show bp ≠ x.rb by omega))
  have HS3 := Lib.hid (own_set_ne (b := x.rb) (o := 1) (x := .pointer none) HS2.out (fun e => (show sb ≠ x.rb by omega) (Option.some.inj e)))
  have HX3 := Lib.hid (HX2.out.far (p := ⟨x.rb, 1, none⟩) (v := .pointer none) (show x.blk ≠ x.rb by omega))
  have hHW := HW2.out.set 1 (.pointer none)
  change Row _ _ _ ([.pointer none, .pointer none]) at hHW
  have HW3 := Lib.hid hHW
  clear hHW
  have HMAP3 := Lib.hid (HMAP2.out.set_ne (p := x.rb) (o := 1) (x := .pointer none) (show B.mp ≠ x.rb by omega))
  clear HB2 HR2 HS2 HX2 HW2 HMAP2
  generalize w2.setCell ⟨x.rb, 1, none⟩ (.pointer none) = w3 at *
  have r0 := HW3.out.cell 0
  simp only [List.getElem?_cons_zero, List.getElem?_cons_succ] at r0
  obtain ⟨x0, _, _, _, a4, a5, a6, _, _, _, _, _, x12, x13⟩ := Nd.at_ HX3.out
  simp only [pt] at x12 x13
  have p0 := HR3.out.cell 0
  simp only [List.getElem?_cons_zero, List.getElem?_cons_succ] at p0
  have hen := run_eql_nil_nil
  go_wp2_with fail
  go_still_tail 9, (by kernel_rfl)
  clear x0 a4 a5 a6 x12 x13 r0 hen p0
  have HB4 := Lib.hid (HB3.out.drewN 1)
  have HR4 := Lib.hid (HR3.out.drewN 1)
  have HS4 := Lib.hid (own_move (w' := w3.drewN 1) HS3.out fun _ _ => rfl)
  have HX4 := Lib.hid (HX3.out.drewN 1)
  have HW4 := Lib.hid (HW3.out.drewN 1)
  have HMAP4 := Lib.hid (HMAP3.out.move (w' := w3.drewN 1) rfl)
  clear HB3 HR3 HS3 HX3 HW3 HMAP3
  change wpList _ _ _ _ _ (w3.drewN 1)
  generalize w3.drewN 1 = w4 at *
  obtain ⟨w5, hrun, hgw, hm5⟩ := HMAP4.out.drop HKO.out 0
  have hrun : (Builtin.delete_ #[70, 60] 0 #[.map (some B.mp), .agg #[.int .u32 x.rc.os, .int .u32 x.rc.og, .int .i64 x.rc.sd]]).run Try.prog w4 = .ok (.tuple #[]) w5 := hrun
  have hk5 : ∀ b, b < w4.heap.size → b ≠ B.mp → w5.heap[b]? = w4.heap[b]? := fun b hb hne => hgw.block b hb (fun e => hne (Option.some.inj e))
  have HB5 : Hid (But (cutS bp B x [] []) w w5) := Lib.hid ⟨hgw.os.trans HB4.out.os, hgw.tape.trans HB4.out.tape, hgw.output.trans HB4.out.output, Nat.le_trans HB4.out.size hgw.size, fun b hb hn => (hk5 b (Nat.lt_of_lt_of_le hb HB4.out.size) (fun e => hn (.inr (.inl e)))).trans (HB4.out.block b hb hn)⟩
  have HR5 : Hid (Row w5 bp 74 _) := Lib.hid ((hk5 _ HR4.out.lt (by omega)).trans HR4.out)
  have HS5 := Lib.hid (own_move HS4.out fun b hb => hk5 b (HS4.out.lt b hb).2 (fun e => (show sb ≠ B.mp by omega) ((Option.some.inj hb).trans e)))
  have HX5 : Hid (Row w5 x.blk 98 _) := Lib.hid ((hk5 _ HX4.out.lt (by omega)).trans HX4.out)
  have HW5 : Hid (Row w5 x.rb 94 _) := Lib.hid ((hk5 _ HW4.out.lt (by omega)).trans HW4.out)
  have HMAP5 := Lib.hid hm5
  clear HB4 HR4 HS4 HX4 HW4 HMAP4 hk5 hm5 hgw
  go_upto_region 9 with fail
  clear hrun
  have p1 := HR5.out.cell 1
  have s1 := HS5.out.frozenAt i
  have s2 := HS5.out.cellAt i (by omega)
  rw [slotCells_get (by omega)] at s2
  obtain ⟨x0, _⟩ := Nd.at_ HX5.out
  rw [HI.out] at x0
  simp only [List.getElem?_cons_zero, List.getElem?_cons_succ] at p1
  have hw : IntKind.u32.wrap ((i : Int) + 1 - 1) = (i : Int) := by simp [IntKind.wrap, IntKind.bits, IntKind.signed]; omega
  have hw' : IntKind.u32.wrap (i : Int) = (i : Int) := by simp [IntKind.wrap, IntKind.bits, IntKind.signed]; omega
  have i0 : (0 : Int) ≤ (i : Int) := by omega
  have i1 : (i : Int) < (n : Int) := by omega
  go_still_tail 12, (by kernel_rfl)
  clear p1 s1 s2 x0
  have HB5d := Lib.hid (HB5.out.drewN 1)
  have HR5d := Lib.hid (HR5.out.drewN 1)
  have HS5d := Lib.hid (own_move (w' := w5.drewN 1) HS5.out fun _ _ => rfl)
  have HX5d := Lib.hid (HX5.out.drewN 1)
  have HW5d := Lib.hid (HW5.out.drewN 1)
  have HMAP5d := Lib.hid (HMAP5.out.move (w' := w5.drewN 1) rfl)
  clear HB5 HR5 HS5 HX5 HW5 HMAP5
  change wpList _ _ _ _ _ (w5.drewN 1)
  generalize w5.drewN 1 = w5d at *
  have s1 := HS5d.out.frozenAt i
  have s2 := HS5d.out.cellAt i (by omega)
  rw [slotCells_get (by omega)] at s2
  go_upto_region 10 with fail
  clear s1 s2
  have HB8 := Lib.hid (HB5d.out.set ⟨sb, i, none⟩ (.pointer none) (.inr (.inr (.inl (by rw [HSV.out]; rfl)))))
  have HR8 := Lib.hid (HR5d.out.far (p := ⟨sb, i, none⟩) (v := .pointer none) (show bp ≠ sb by omega))
  have HS8 := Lib.hid (HS5d.out.stored i (.pointer none)).1
  have HX8 := Lib.hid (HX5d.out.far (p := ⟨sb, i, none⟩) (v := .pointer none) (show x.blk ≠ sb by omega))
  have HW8 := Lib.hid (HW5d.out.far (p := ⟨sb, i, none⟩) (v := .pointer none) (show x.rb ≠ sb by omega))
  have HMAP8 := Lib.hid (HMAP5d.out.set_ne (p := sb) (o := i) (x := .pointer none) (show B.mp ≠ sb by omega))
  clear HB5d HR5d HS5d HX5d HW5d HMAP5d
  generalize w5d.setCell ⟨sb, i, none⟩ (.pointer none) = w8 at *
  have p4 := HR8.out.cell 4
  have q4 := HR8.out.frozen 4
  simp only [List.getElem?_cons_zero, List.getElem?_cons_succ] at p4
  have hw4 : wrap64 (((B.N.length : Nat) : Int) - 1) = ((B.N.length : Nat) : Int) - 1 := by have := HN0.out; unfold wrap64; omega
  go_wp2_with fail
  clear p4 q4
  have HB9 := Lib.hid (HB8.out.set ⟨bp, 4, none⟩ (.int .i64 ((B.N.length : Nat) - 1)) (.inl rfl))
  have hHR := HR8.out.set 4 (.int .i64 ((B.N.length : Nat) - 1))
  change Row _ _ _ ([.map (some B.mp), .slice (some ⟨sb, 0, none⟩) n d4, B.gv, .int .i64 B.put, .int .i64 ((B.N.length : Nat) - 1)]) at hHR
  have HR9 := Lib.hid hHR
  clear hHR
  have HS9 := Lib.hid (own_set_ne (b := bp) (o := 4) (x := .int .i64 ((B.N.length : Nat) - 1)) HS8.out (fun e => (show sb ≠ bp by omega) (Option.some.inj e)))
  have HX9 := Lib.hid (HX8.out.far (p := ⟨bp, 4, none⟩) (v := .int .i64 ((B.N.length : Nat) - 1)) (show x.blk ≠ bp by omega))
  have HW9 := Lib.hid (HW8.out.far (p := ⟨bp, 4, none⟩) (v := .int .i64 ((B.N.length : Nat) - 1)) (show x.rb ≠ bp by omega))
  have HMAP9 := Lib.hid (HMAP8.out.set_ne (p := bp) (o := 4) (x := .int .i64 ((B.N.length : Nat) - 1)) (show B.mp ≠ bp by omega))
  clear HB8 HR8 HS8 HX8 HW8 HMAP8
  generalize w8.setCell ⟨bp, 4, none⟩ (.int .i64 ((B.N.length : Nat) - 1)) = w9 at *
  go_end0
  refine ⟨rfl, BookTo.cut (i := i) (l1 := []) (l2 := []) H0.out HL.out HI.out HB9.out ?_ ?_ ?_ ?_ ?_ ?_⟩
  · rw [HSV.out, HNE.out]; exact HR9.out
  · have e : (fun k => if k = x.rc.key ∧ ([] ++ [] : List Nd) = [] then none else rowOf B.N k) = fun k => if k = x.rc.key then none else rowOf B.N k := by
      funext k; by_cases e : k = x.rc.key <;> simp [e]
    rw [e]; exact HMAP9.out
  · rw [HSV.out, HNE.out]; exact HS9.out
  · intro e; exact absurd rfl e
  · intro y' hy'; cases hy'
  · intro z' hz'; cases hz'
set_option maxHeartbeats 8000000 in
set_option maxRecDepth 100000 in
theorem outNS_c (bp : Nat) (B : Bk) (x : Nd) (z : Nd) (l2 : List Nd) (w : World) (h : BookAt w bp B) (hN : B.N.length ≤ 100000) (hl : inRow x.rc.key B.N = [] ++ x :: (z :: l2)) :
    Calls Try.prog 29 #[.pointer (some ⟨bp, 0, none⟩), .pointer (some ⟨x.blk, 0, none⟩)] w fun e w' => e = .returned (.tuple #[]) ∧ BookTo w bp B w' (B.cut x.blk) := by
  have H0 := Lib.hid h
  have HL := Lib.hid hl
  have hin : ∀ q ∈ [] ++ x :: (z :: l2), q ∈ B.N ∧ q.rc.key = x.rc.key := fun q hq => inRow_mem (by rw [hl]; exact hq)
  have hbl := inRow_blks h.ok.blks x.rc.key
  rw [hl] at hbl
  obtain ⟨hx, _⟩ := hin x (by simp)
  obtain ⟨i, hi, hgi⟩ := h.ok.slot x hx
  have hil := (List.getElem?_eq_some_iff.1 hgi).1
  have hxok := h.ok.ok x hx
  have hxr := h.mem.node x hx
  have hwr := h.mem.row x hx
  rw [hl] at hxr hwr
  have hxn : x.blk ∉ ([] : List Nd).map (·.blk) := by
    rw [List.map_append, List.map_cons, List.nodup_append] at hbl
    exact fun e => hbl.2.2 _ e _ List.mem_cons_self rfl
  rw [prv_at_mid hxn, nxt_at_mid hxn] at hxr
  obtain ⟨hzN, hzk⟩ := hin z (by simp)
  have hzr := h.mem.node z hzN
  rw [hzk, hl] at hzr
  have hzn : z.blk ∉ ([] ++ [x] : List Nd).map (·.blk) := by
    have e : ([] ++ x :: (z :: l2) : List Nd) = [] ++ [x] ++ z :: l2 := by simp
    rw [e, List.map_append, List.map_cons, List.nodup_append] at hbl
    exact fun e => hbl.2.2 _ e _ List.mem_cons_self rfl
  have hzpv : prv ([] ++ x :: (z :: l2)) z.blk = some x.blk := by
    have e : ([] ++ x :: (z :: l2) : List Nd) = [] ++ [x] ++ z :: l2 := by simp
    rw [e, prv_at_mid hzn]; simp
  rw [hzpv] at hzr
  have tz := h.ok.t4 z hzN
  have nxz : x.blk ≠ z.blk := fun e => hzn (by rw [← e]; simp)
  obtain ⟨A4, d4, hsv, hsc⟩ := own_form h.mem.slots
  obtain ⟨sb, hA4, _, _⟩ := hsc i _ (slotCells_get hil)
  subst hA4
  have tb := h.ok.t0
  have tm := h.ok.t1
  have ts := h.ok.t2 sb (by rw [hsv]; rfl)
  have tx := h.ok.t4 x hx
  have tr := h.ok.t5 x hx
  have hbm := h.mem.book
  have hsm := h.mem.slots
  rw [hsv] at hbm hsm
  have HMAP0 := Lib.hid h.mem.map
  have HSV := Lib.hid hsv
  have HI := Lib.hid hi
  have HXN := Lib.hid hx
  have HKO := Lib.hid hxok.key
  have HR0 := Lib.hid hbm
  have HS0 := Lib.hid hsm
  have ela : ([] : List Nd).getLast?.map (fun q => q.blk) = none := by simp
  have ehd : ((z :: l2) : List Nd).head?.map (fun q => q.blk) = some z.blk := by simp
  rw [ela, ehd] at hxr
  have HX0 := Lib.hid hxr
  change Row _ _ _ [_, _] at hwr
  clear ela ehd
  obtain ⟨fv, hfv⟩ : ∃ fv, pt (([] ++ x :: (z :: l2) : List Nd).head?.map (·.blk)) = fv := ⟨_, rfl⟩
  obtain ⟨lv, hlv⟩ : ∃ lv, pt (([] ++ x :: (z :: l2) : List Nd).getLast?.map (·.blk)) = lv := ⟨_, rfl⟩
  rw [hfv, hlv] at hwr
  have HFV := Lib.hid hfv
  have HLV := Lib.hid hlv
  have HW0 := Lib.hid hwr
  have HZ0 := Lib.hid hzr
  have HZN := Lib.hid hzN
  have n1 := tag_ne tb tm (by decide)
  have n2 := tag_ne tb ts (by decide)
  have n3 := tag_ne tb tx (by decide)
  have n4 := tag_ne tb tr (by decide)
  have n5 := tag_ne tb tz (by decide)
  have n6 := tag_ne tm ts (by decide)
  have n7 := tag_ne tm tx (by decide)
  have n8 := tag_ne tm tr (by decide)
  have n9 := tag_ne tm tz (by decide)
  have n10 := tag_ne ts tx (by decide)
  have n11 := tag_ne ts tr (by decide)
  have n12 := tag_ne ts tz (by decide)
  have n13 := tag_ne tx tr (by decide)
  have n14 := tag_ne tr tz (by decide)
  have HN0 := Lib.hid hN
  have HIL := Lib.hid hil
  have HB0 := Lib.hid (But.refl (cutS bp B x [] (z :: l2)) w)
  obtain ⟨n, hn⟩ : ∃ n, B.gens.length = n := ⟨_, rfl⟩
  have hfew := H0.out.ok.few
  rw [hn] at hil HS0 HR0 hfew
  have HNE := Lib.hid hn
  have p0 := HR0.out.cell 0
  obtain ⟨_, _, _, _, a4, a5, a6, _⟩ := Nd.at_ HX0.out
  simp only [List.getElem?_cons_zero, List.getElem?_cons_succ] at p0
  have hlk := fun d => (HMAP0.out.move (w' := w.drewN d) rfl).find HKO.out
  have hlk : ∀ d, (Instr.lookup 70 (.map (some B.mp)) (.agg #[.int .u32 x.rc.os, .int .u32 x.rc.og, .int .i64 x.rc.sd]) false).run Try.prog (w.drewN d) = .ok (.pointer (some ⟨x.rb, 0, none⟩)) (w.drewN d) := fun d => by
    have hro : rowOf B.N x.rc.key = some x.rb := rowOf_mem H0.out.ok HXN.out
    have := hlk d
    rw [hro] at this
    exact this
  have hlk0 := hlk 0
  rw [World.drewN_zero] at hlk0
  clear h hl hin hbl hx hgi hxok hxr hwr hxn hsv hsc hbm hsm hfv hlv hi hzN hzk hzr hzn hzpv hn hN
  clear tb tm ts tx tr tz
  go_enter Try.func29, Try.ntmps29
  go_wp2_with fail
  go_quiet (fail)
  have HB1 := Lib.hid (HB0.out.drewN nq)
  have HR1 := Lib.hid (HR0.out.drewN nq)
  have HS1 := Lib.hid (own_move (w' := w.drewN nq) HS0.out fun _ _ => rfl)
  have HX1 := Lib.hid (HX0.out.drewN nq)
  have HW1 := Lib.hid (HW0.out.drewN nq)
  have HZ1 := Lib.hid (HZ0.out.drewN nq)
  have HMAP1 := Lib.hid (HMAP0.out.move (w' := w.drewN nq) rfl)
  clear p0 a4 a5 a6 hlk hlk0 HB0 HR0 HS0 HX0 HW0 HZ0 HMAP0
  generalize w.drewN nq = w1 at *
  obtain ⟨x0, _, _, _, a4, a5, a6, _, _, _, _, _, x12, x13⟩ := Nd.at_ HX1.out
  simp only [pt] at x12 x13
  have r0 := HW1.out.cell 0
  have t0 := HW1.out.frozen 0
  simp only [List.getElem?_cons_zero, List.getElem?_cons_succ] at r0
  have hen := run_eql_nil_nil
  go_upto_region 4 with fail
  clear x0 a4 a5 a6 x12 x13 r0 t0 hen
  have HB2 := Lib.hid (HB1.out.set ⟨x.rb, 0, none⟩ (.pointer (some ⟨z.blk, 0, none⟩)) (.inr (.inr (.inr (.inl rfl)))))
  have HR2 := Lib.hid (HR1.out.far (p := ⟨x.rb, 0, none⟩) (v := .pointer (some ⟨z.blk, 0, none⟩)) (show bp ≠ x.rb by omega))
  have HS2 := Lib.hid (own_set_ne (b := x.rb) (o := 0) (x := .pointer (some ⟨z.blk, 0, none⟩)) HS1.out (fun e => (show sb ≠ x.rb by omega) (Option.some.inj e)))
  have HX2 := Lib.hid (HX1.out.far (p := ⟨x.rb, 0, none⟩) (v := .pointer (some ⟨z.blk, 0, none⟩)) (show x.blk ≠ x.rb by omega))
  have hHW := HW1.out.set 0 (.pointer (some ⟨z.blk, 0, none⟩))
  change Row _ _ _ ([.pointer (some ⟨z.blk, 0, none⟩), lv]) at hHW
  have HW2 := Lib.hid hHW
  clear hHW
  have HZ2 := Lib.hid (HZ1.out.far (p := ⟨x.rb, 0, none⟩) (v := .pointer (some ⟨z.blk, 0, none⟩)) (show z.blk ≠ x.rb by omega))
  have HMAP2 := Lib.hid (HMAP1.out.set_ne (p := x.rb) (o := 0) (x := .pointer (some ⟨z.blk, 0, none⟩)) (show B.mp ≠ x.rb by omega))
  clear HB1 HR1 HS1 HX1 HW1 HZ1 HMAP1
  generalize w1.setCell ⟨x.rb, 0, none⟩ (.pointer (some ⟨z.blk, 0, none⟩)) = w2 at *
  obtain ⟨x0, _, _, _, a4, a5, a6, _, _, _, _, _, x12, x13⟩ := Nd.at_ HX2.out
  simp only [pt] at x12 x13
  have z12 := HZ2.out.cell 12
  have t0 := HZ2.out.frozen 12
  change _ = some (pt (some x.blk)) at z12
  simp only [pt] at z12
  have hen := fun w => run_eql_some_nil ⟨z.blk, 0, none⟩ w
  go_wp2_with fail
  go_still_tail 10, (by kernel_rfl)
  clear x0 a4 a5 a6 x12 x13 z12 t0 hen
  have HB2a := Lib.hid (HB2.out.drewN 1)
  have HR2a := Lib.hid (HR2.out.drewN 1)
  have HS2a := Lib.hid (own_move (w' := w2.drewN 1) HS2.out fun _ _ => rfl)
  have HX2a := Lib.hid (HX2.out.drewN 1)
  have HW2a := Lib.hid (HW2.out.drewN 1)
  have HZ2a := Lib.hid (HZ2.out.drewN 1)
  have HMAP2a := Lib.hid (HMAP2.out.move (w' := w2.drewN 1) rfl)
  clear HB2 HR2 HS2 HX2 HW2 HZ2 HMAP2
  change wpList _ _ _ _ _ (w2.drewN 1)
  generalize w2.drewN 1 = w2a at *
  have z12 := HZ2a.out.cell 12
  have t0 := HZ2a.out.frozen 12
  change _ = some (pt (some x.blk)) at z12
  simp only [pt] at z12
  go_upto_region 7 with fail
  clear z12 t0
  have HB3 := Lib.hid (HB2a.out.set ⟨z.blk, 12, none⟩ (.pointer none) (.inr (.inr (.inr (.inr (.inr (by simp)))))))
  have HR3 := Lib.hid (HR2a.out.far (p := ⟨z.blk, 12, none⟩) (v := .pointer none) (show bp ≠ z.blk by omega))
  have HS3 := Lib.hid (own_set_ne (b := z.blk) (o := 12) (x := .pointer none) HS2a.out (fun e => (show sb ≠ z.blk by omega) (Option.some.inj e)))
  have HX3 := Lib.hid (HX2a.out.far (p := ⟨z.blk, 12, none⟩) (v := .pointer none) (show x.blk ≠ z.blk by omega))
  have HW3 := Lib.hid (HW2a.out.far (p := ⟨z.blk, 12, none⟩) (v := .pointer none) (show x.rb ≠ z.blk by omega))
  have hHZ := HZ2a.out.set 12 (.pointer none)
  change Row _ _ _ (z.cells (none) (nxt ([] ++ x :: (z :: l2)) z.blk)) at hHZ
  have HZ3 := Lib.hid hHZ
  clear hHZ
  have HMAP3 := Lib.hid (HMAP2a.out.set_ne (p := z.blk) (o := 12) (x := .pointer none) (show B.mp ≠ z.blk by omega))
  clear HB2a HR2a HS2a HX2a HW2a HZ2a HMAP2a
  generalize w2a.setCell ⟨z.blk, 12, none⟩ (.pointer none) = w3 at *
  have r0 := HW3.out.cell 0
  simp only [List.getElem?_cons_zero, List.getElem?_cons_succ] at r0
  obtain ⟨x0, _, _, _, a4, a5, a6, _, _, _, _, _, x12, x13⟩ := Nd.at_ HX3.out
  simp only [pt] at x12 x13
  have hen := fun w => run_eql_some_nil ⟨z.blk, 0, none⟩ w
  go_upto_region 9 with fail
  clear x0 a4 a5 a6 x12 x13 r0 hen
  have p1 := HR3.out.cell 1
  have s1 := HS3.out.frozenAt i
  have s2 := HS3.out.cellAt i (by omega)
  rw [slotCells_get (by omega)] at s2
  obtain ⟨x0, _⟩ := Nd.at_ HX3.out
  rw [HI.out] at x0
  simp only [List.getElem?_cons_zero, List.getElem?_cons_succ] at p1
  have hw : IntKind.u32.wrap ((i : Int) + 1 - 1) = (i : Int) := by simp [IntKind.wrap, IntKind.bits, IntKind.signed]; omega
  have hw' : IntKind.u32.wrap (i : Int) = (i : Int) := by simp [IntKind.wrap, IntKind.bits, IntKind.signed]; omega
  have i0 : (0 : Int) ≤ (i : Int) := by omega
  have i1 : (i : Int) < (n : Int) := by omega
  go_still_tail 12, (by kernel_rfl)
  clear p1 s1 s2 x0
  have HB3d := Lib.hid (HB3.out.drewN 1)
  have HR3d := Lib.hid (HR3.out.drewN 1)
  have HS3d := Lib.hid (own_move (w' := w3.drewN 1) HS3.out fun _ _ => rfl)
  have HX3d := Lib.hid (HX3.out.drewN 1)
  have HW3d := Lib.hid (HW3.out.drewN 1)
  have HZ3d := Lib.hid (HZ3.out.drewN 1)
  have HMAP3d := Lib.hid (HMAP3.out.move (w' := w3.drewN 1) rfl)
  clear HB3 HR3 HS3 HX3 HW3 HZ3 HMAP3
  change wpList _ _ _ _ _ (w3.drewN 1)
  generalize w3.drewN 1 = w3d at *
  have s1 := HS3d.out.frozenAt i
  have s2 := HS3d.out.cellAt i (by omega)
  rw [slotCells_get (by omega)] at s2
  go_upto_region 10 with fail
  clear s1 s2
  have HB8 := Lib.hid (HB3d.out.set ⟨sb, i, none⟩ (.pointer none) (.inr (.inr (.inl (by rw [HSV.out]; rfl)))))
  have HR8 := Lib.hid (HR3d.out.far (p := ⟨sb, i, none⟩) (v := .pointer none) (show bp ≠ sb by omega))
  have HS8 := Lib.hid (HS3d.out.stored i (.pointer none)).1
  have HX8 := Lib.hid (HX3d.out.far (p := ⟨sb, i, none⟩) (v := .pointer none) (show x.blk ≠ sb by omega))
  have HW8 := Lib.hid (HW3d.out.far (p := ⟨sb, i, none⟩) (v := .pointer none) (show x.rb ≠ sb by omega))
  have HZ8 := Lib.hid (HZ3d.out.far (p := ⟨sb, i, none⟩) (v := .pointer none) (show z.blk ≠ sb by omega))
  have HMAP8 := Lib.hid (HMAP3d.out.set_ne (p := sb) (o := i) (x := .pointer none) (show B.mp ≠ sb by omega))
  clear HB3d HR3d HS3d HX3d HW3d HZ3d HMAP3d
  generalize w3d.setCell ⟨sb, i, none⟩ (.pointer none) = w8 at *
  have p4 := HR8.out.cell 4
  have q4 := HR8.out.frozen 4
  simp only [List.getElem?_cons_zero, List.getElem?_cons_succ] at p4
  have hw4 : wrap64 (((B.N.length : Nat) : Int) - 1) = ((B.N.length : Nat) : Int) - 1 := by have := HN0.out; unfold wrap64; omega
  go_wp2_with fail
  clear p4 q4
  have HB9 := Lib.hid (HB8.out.set ⟨bp, 4, none⟩ (.int .i64 ((B.N.length : Nat) - 1)) (.inl rfl))
  have hHR := HR8.out.set 4 (.int .i64 ((B.N.length : Nat) - 1))
  change Row _ _ _ ([.map (some B.mp), .slice (some ⟨sb, 0, none⟩) n d4, B.gv, .int .i64 B.put, .int .i64 ((B.N.length : Nat) - 1)]) at hHR
  have HR9 := Lib.hid hHR
  clear hHR
  have HS9 := Lib.hid (own_set_ne (b := bp) (o := 4) (x := .int .i64 ((B.N.length : Nat) - 1)) HS8.out (fun e => (show sb ≠ bp by omega) (Option.some.inj e)))
  have HX9 := Lib.hid (HX8.out.far (p := ⟨bp, 4, none⟩) (v := .int .i64 ((B.N.length : Nat) - 1)) (show x.blk ≠ bp by omega))
  have HW9 := Lib.hid (HW8.out.far (p := ⟨bp, 4, none⟩) (v := .int .i64 ((B.N.length : Nat) - 1)) (show x.rb ≠ bp by omega))
  have HZ9 := Lib.hid (HZ8.out.far (p := ⟨bp, 4, none⟩) (v := .int .i64 ((B.N.length : Nat) - 1)) (show z.blk ≠ bp by omega))
  have HMAP9 := Lib.hid (HMAP8.out.set_ne (p := bp) (o := 4) (x := .int .i64 ((B.N.length : Nat) - 1)) (show B.mp ≠ bp by omega))
  clear HB8 HR8 HS8 HX8 HW8 HZ8 HMAP8
  generalize w8.setCell ⟨bp, 4, none⟩ (.int .i64 ((B.N.length : Nat) - 1)) = w9 at *
  go_end0
  refine ⟨rfl, BookTo.cut (i := i) (l1 := []) (l2 := (z :: l2)) H0.out HL.out HI.out HB9.out ?_ ?_ ?_ ?_ ?_ ?_⟩
  · rw [HSV.out, HNE.out]; exact HR9.out
  · have e : (fun k => if k = x.rc.key ∧ ([] ++ (z :: l2) : List Nd) = [] then none else rowOf B.N k) = rowOf B.N := by
      funext k; rw [if_neg (by simp)]
    rw [e]; exact HMAP9.out
  · rw [HSV.out, HNE.out]; exact HS9.out
  · intro _
    have e1 : pt (([] ++ (z :: l2) : List Nd).head?.map (·.blk)) = .pointer (some ⟨z.blk, 0, none⟩) := rfl
    have e2 : pt (([] ++ (z :: l2) : List Nd).getLast?.map (·.blk)) = lv := by rw [← HLV.out]; simp [List.getLast?_append, List.getLast?_cons_cons]
    rw [e1, e2]; exact HW9.out
  · intro y' hy'; cases hy'
  · intro z' hz'
    have : z = z' := Option.some.inj hz'
    subst this
    have e : ([] : List Nd).getLast?.map (·.blk) = none := by simp
    rw [e]; exact HZ9.out
set_option maxHeartbeats 8000000 in
set_option maxRecDepth 100000 in
theorem outSN_c (bp : Nat) (B : Bk) (x : Nd) (l1 : List Nd) (y : Nd) (w : World) (h : BookAt w bp B) (hN : B.N.length ≤ 100000) (hl : inRow x.rc.key B.N = (l1 ++ [y]) ++ x :: []) :
    Calls Try.prog 29 #[.pointer (some ⟨bp, 0, none⟩), .pointer (some ⟨x.blk, 0, none⟩)] w fun e w' => e = .returned (.tuple #[]) ∧ BookTo w bp B w' (B.cut x.blk) := by
  have H0 := Lib.hid h
  have HL := Lib.hid hl
  have hin : ∀ q ∈ (l1 ++ [y]) ++ x :: [], q ∈ B.N ∧ q.rc.key = x.rc.key := fun q hq => inRow_mem (by rw [hl]; exact hq)
  have hbl := inRow_blks h.ok.blks x.rc.key
  rw [hl] at hbl
  obtain ⟨hx, _⟩ := hin x (by simp)
  obtain ⟨i, hi, hgi⟩ := h.ok.slot x hx
  have hil := (List.getElem?_eq_some_iff.1 hgi).1
  have hxok := h.ok.ok x hx
  have hxr := h.mem.node x hx
  have hwr := h.mem.row x hx
  rw [hl] at hxr hwr
  have hxn : x.blk ∉ ((l1 ++ [y]) : List Nd).map (·.blk) := by
    rw [List.map_append, List.map_cons, List.nodup_append] at hbl
    exact fun e => hbl.2.2 _ e _ List.mem_cons_self rfl
  rw [prv_at_mid hxn, nxt_at_mid hxn] at hxr
  obtain ⟨hyN, hyk⟩ := hin y (by simp)
  have hyr := h.mem.node y hyN
  rw [hyk, hl] at hyr
  have hyn : y.blk ∉ l1.map (·.blk) := by
    rw [List.map_append, List.nodup_append, List.map_append, List.nodup_append] at hbl
    exact fun e => hbl.1.2.2 _ e _ (by simp) rfl
  have hynx : nxt ((l1 ++ [y]) ++ x :: []) y.blk = some x.blk := by rw [List.append_assoc]; exact nxt_at_mid hyn
  rw [hynx] at hyr
  have ty := h.ok.t4 y hyN
  have nxy : x.blk ≠ y.blk := fun e => hxn (by rw [e]; simp)
  obtain ⟨A4, d4, hsv, hsc⟩ := own_form h.mem.slots
  obtain ⟨sb, hA4, _, _⟩ := hsc i _ (slotCells_get hil)
  subst hA4
  have tb := h.ok.t0
  have tm := h.ok.t1
  have ts := h.ok.t2 sb (by rw [hsv]; rfl)
  have tx := h.ok.t4 x hx
  have tr := h.ok.t5 x hx
  have hbm := h.mem.book
  have hsm := h.mem.slots
  rw [hsv] at hbm hsm
  have HMAP0 := Lib.hid h.mem.map
  have HSV := Lib.hid hsv
  have HI := Lib.hid hi
  have HXN := Lib.hid hx
  have HKO := Lib.hid hxok.key
  have HR0 := Lib.hid hbm
  have HS0 := Lib.hid hsm
  have ela : ((l1 ++ [y]) : List Nd).getLast?.map (fun q => q.blk) = some y.blk := by simp
  have ehd : ([] : List Nd).head?.map (fun q => q.blk) = none := by simp
  rw [ela, ehd] at hxr
  have HX0 := Lib.hid hxr
  change Row _ _ _ [_, _] at hwr
  clear ela ehd
  obtain ⟨fb, hfb⟩ : ∃ fb, ((l1 ++ [y]) ++ x :: [] : List Nd).head?.map (fun q => q.blk) = some fb := by cases l1 <;> exact ⟨_, rfl⟩
  obtain ⟨fb', hfb'⟩ : ∃ fb', ((l1 ++ [y]) ++ [] : List Nd).head? = ((l1 ++ [y]) ++ x :: [] : List Nd).head? ∧ fb' = fb := by cases l1 <;> exact ⟨_, rfl, rfl⟩
  have HFH := Lib.hid hfb'.1
  clear hfb'
  have hfv : pt (((l1 ++ [y]) ++ x :: [] : List Nd).head?.map (·.blk)) = .pointer (some ⟨fb, 0, none⟩) := by rw [hfb]; rfl
  clear hfb
  obtain ⟨lv, hlv⟩ : ∃ lv, pt (((l1 ++ [y]) ++ x :: [] : List Nd).getLast?.map (·.blk)) = lv := ⟨_, rfl⟩
  rw [hfv, hlv] at hwr
  have HFV := Lib.hid hfv
  have HLV := Lib.hid hlv
  have HW0 := Lib.hid hwr
  have HY0 := Lib.hid hyr
  have HYN := Lib.hid hyN
  have n1 := tag_ne tb tm (by decide)
  have n2 := tag_ne tb ts (by decide)
  have n3 := tag_ne tb tx (by decide)
  have n4 := tag_ne tb tr (by decide)
  have n5 := tag_ne tb ty (by decide)
  have n6 := tag_ne tm ts (by decide)
  have n7 := tag_ne tm tx (by decide)
  have n8 := tag_ne tm tr (by decide)
  have n9 := tag_ne tm ty (by decide)
  have n10 := tag_ne ts tx (by decide)
  have n11 := tag_ne ts tr (by decide)
  have n12 := tag_ne ts ty (by decide)
  have n13 := tag_ne tx tr (by decide)
  have n14 := tag_ne tr ty (by decide)
  have HN0 := Lib.hid hN
  have HIL := Lib.hid hil
  have HB0 := Lib.hid (But.refl (cutS bp B x (l1 ++ [y]) []) w)
  obtain ⟨n, hn⟩ : ∃ n, B.gens.length = n := ⟨_, rfl⟩
  have hfew := H0.out.ok.few
  rw [hn] at hil HS0 HR0 hfew
  have HNE := Lib.hid hn
  have p0 := HR0.out.cell 0
  obtain ⟨_, _, _, _, a4, a5, a6, _⟩ := Nd.at_ HX0.out
  simp only [List.getElem?_cons_zero, List.getElem?_cons_succ] at p0
  have hlk := fun d => (HMAP0.out.move (w' := w.drewN d) rfl).find HKO.out
  have hlk : ∀ d, (Instr.lookup 70 (.map (some B.mp)) (.agg #[.int .u32 x.rc.os, .int .u32 x.rc.og, .int .i64 x.rc.sd]) false).run Try.prog (w.drewN d) = .ok (.pointer (some ⟨x.rb, 0, none⟩)) (w.drewN d) := fun d => by
    have hro : rowOf B.N x.rc.key = some x.rb := rowOf_mem H0.out.ok HXN.out
    have := hlk d
    rw [hro] at this
    exact this
  have hlk0 := hlk 0
  rw [World.drewN_zero] at hlk0
  clear h hl hin hbl hx hgi hxok hxr hwr hxn hsv hsc hbm hsm hfv hlv hi hyN hyk hyr hyn hynx hn hN
  clear tb tm ts tx tr ty
  go_enter Try.func29, Try.ntmps29
  go_wp2_with fail
  go_quiet (fail)
  have HB1 := Lib.hid (HB0.out.drewN nq)
  have HR1 := Lib.hid (HR0.out.drewN nq)
  have HS1 := Lib.hid (own_move (w' := w.drewN nq) HS0.out fun _ _ => rfl)
  have HX1 := Lib.hid (HX0.out.drewN nq)
  have HW1 := Lib.hid (HW0.out.drewN nq)
  have HY1 := Lib.hid (HY0.out.drewN nq)
  have HMAP1 := Lib.hid (HMAP0.out.move (w' := w.drewN nq) rfl)
  clear p0 a4 a5 a6 hlk hlk0 HB0 HR0 HS0 HX0 HW0 HY0 HMAP0
  generalize w.drewN nq = w1 at *
  obtain ⟨x0, _, _, _, a4, a5, a6, _, _, _, _, _, x12, x13⟩ := Nd.at_ HX1.out
  simp only [pt] at x12 x13
  have y13 := HY1.out.cell 13
  have t0 := HY1.out.frozen 13
  change _ = some (pt (some x.blk)) at y13
  simp only [pt] at y13
  have hen := fun w => run_eql_some_nil ⟨y.blk, 0, none⟩ w
  go_wp2_with fail
  go_still_tail 10, (by kernel_rfl)
  clear x0 a4 a5 a6 x12 x13 y13 t0 hen
  have HB1a := Lib.hid (HB1.out.drewN 1)
  have HR1a := Lib.hid (HR1.out.drewN 1)
  have HS1a := Lib.hid (own_move (w' := w1.drewN 1) HS1.out fun _ _ => rfl)
  have HX1a := Lib.hid (HX1.out.drewN 1)
  have HW1a := Lib.hid (HW1.out.drewN 1)
  have HY1a := Lib.hid (HY1.out.drewN 1)
  have HMAP1a := Lib.hid (HMAP1.out.move (w' := w1.drewN 1) rfl)
  clear HB1 HR1 HS1 HX1 HW1 HY1 HMAP1
  change wpList _ _ _ _ _ (w1.drewN 1)
  generalize w1.drewN 1 = w1a at *
  have y13 := HY1a.out.cell 13
  have t0 := HY1a.out.frozen 13
  change _ = some (pt (some x.blk)) at y13
  simp only [pt] at y13
  go_upto_region 4 with fail
  clear y13 t0
  have HB2 := Lib.hid (HB1a.out.set ⟨y.blk, 13, none⟩ (.pointer none) (.inr (.inr (.inr (.inr (.inl (by simp)))))))
  have HR2 := Lib.hid (HR1a.out.far (p := ⟨y.blk, 13, none⟩) (v := .pointer none) (show bp ≠ y.blk by omega))
  have HS2 := Lib.hid (own_set_ne (b := y.blk) (o := 13) (x := .pointer none) HS1a.out (fun e => (show sb ≠ y.blk by omega) (Option.some.inj e)))
  have HX2 := Lib.hid (HX1a.out.far (p := ⟨y.blk, 13, none⟩) (v := .pointer none) (show x.blk ≠ y.blk by omega))
  have HW2 := Lib.hid (HW1a.out.far (p := ⟨y.blk, 13, none⟩) (v := .pointer none) (show x.rb ≠ y.blk by omega))
  have hHY := HY1a.out.set 13 (.pointer none)
  change Row _ _ _ (y.cells (prv ((l1 ++ [y]) ++ x :: []) y.blk) (none)) at hHY
  have HY2 := Lib.hid hHY
  clear hHY
  have HMAP2 := Lib.hid (HMAP1a.out.set_ne (p := y.blk) (o := 13) (x := .pointer none) (show B.mp ≠ y.blk by omega))
  clear HB1a HR1a HS1a HX1a HW1a HY1a HMAP1a
  generalize w1a.setCell ⟨y.blk, 13, none⟩ (.pointer none) = w2 at *
  obtain ⟨x0, _, _, _, a4, a5, a6, _, _, _, _, _, x12, x13⟩ := Nd.at_ HX2.out
  simp only [pt] at x12 x13
  have r1 := HW2.out.cell 1
  have t0 := HW2.out.frozen 1
  simp only [List.getElem?_cons_zero, List.getElem?_cons_succ] at r1
  have hen := run_eql_nil_nil
  go_upto_region 7 with fail
  clear x0 a4 a5 a6 x12 x13 r1 t0 hen
  have HB3 := Lib.hid (HB2.out.set ⟨x.rb, 1, none⟩ (.pointer (some ⟨y.blk, 0, none⟩)) (.inr (.inr (.inr (.inl rfl)))))
  have HR3 := Lib.hid (HR2.out.far (p := ⟨x.rb, 1, none⟩) (v := .pointer (some ⟨y.blk, 0, none⟩)) (show bp ≠ x.rb by omega))
  have HS3 := Lib.hid (own_set_ne (b := x.rb) (o := 1) (x := .pointer (some ⟨y.blk, 0, none⟩)) HS2.out (fun e => (show sb ≠ x.rb by omega) (Option.some.inj e)))
  have HX3 := Lib.hid (HX2.out.far (p := ⟨x.rb, 1, none⟩) (v := .pointer (some ⟨y.blk, 0, none⟩)) (show x.blk ≠ x.rb by omega))
  have hHW := HW2.out.set 1 (.pointer (some ⟨y.blk, 0, none⟩))
  change Row _ _ _ ([.pointer (some ⟨fb, 0, none⟩), .pointer (some ⟨y.blk, 0, none⟩)]) at hHW
  have HW3 := Lib.hid hHW
  clear hHW
  have HY3 := Lib.hid (HY2.out.far (p := ⟨x.rb, 1, none⟩) (v := .pointer (some ⟨y.blk, 0, none⟩)) (show y.blk ≠ x.rb by omega))
  have HMAP3 := Lib.hid (HMAP2.out.set_ne (p := x.rb) (o := 1) (x := .pointer (some ⟨y.blk, 0, none⟩)) (show B.mp ≠ x.rb by omega))
  clear HB2 HR2 HS2 HX2 HW2 HY2 HMAP2
  generalize w2.setCell ⟨x.rb, 1, none⟩ (.pointer (some ⟨y.blk, 0, none⟩)) = w3 at *
  have r0 := HW3.out.cell 0
  simp only [List.getElem?_cons_zero, List.getElem?_cons_succ] at r0
  obtain ⟨x0, _, _, _, a4, a5, a6, _, _, _, _, _, x12, x13⟩ := Nd.at_ HX3.out
  simp only [pt] at x12 x13
  have hen := fun w => run_eql_some_nil ⟨fb, 0, none⟩ w
  go_upto_region 9 with fail
  clear x0 a4 a5 a6 x12 x13 r0 hen
  have p1 := HR3.out.cell 1
  have s1 := HS3.out.frozenAt i
  have s2 := HS3.out.cellAt i (by omega)
  rw [slotCells_get (by omega)] at s2
  obtain ⟨x0, _⟩ := Nd.at_ HX3.out
  rw [HI.out] at x0
  simp only [List.getElem?_cons_zero, List.getElem?_cons_succ] at p1
  have hw : IntKind.u32.wrap ((i : Int) + 1 - 1) = (i : Int) := by simp [IntKind.wrap, IntKind.bits, IntKind.signed]; omega
  have hw' : IntKind.u32.wrap (i : Int) = (i : Int) := by simp [IntKind.wrap, IntKind.bits, IntKind.signed]; omega
  have i0 : (0 : Int) ≤ (i : Int) := by omega
  have i1 : (i : Int) < (n : Int) := by omega
  go_still_tail 12, (by kernel_rfl)
  clear p1 s1 s2 x0
  have HB3d := Lib.hid (HB3.out.drewN 1)
  have HR3d := Lib.hid (HR3.out.drewN 1)
  have HS3d := Lib.hid (own_move (w' := w3.drewN 1) HS3.out fun _ _ => rfl)
  have HX3d := Lib.hid (HX3.out.drewN 1)
  have HW3d := Lib.hid (HW3.out.drewN 1)
  have HY3d := Lib.hid (HY3.out.drewN 1)
  have HMAP3d := Lib.hid (HMAP3.out.move (w' := w3.drewN 1) rfl)
  clear HB3 HR3 HS3 HX3 HW3 HY3 HMAP3
  change wpList _ _ _ _ _ (w3.drewN 1)
  generalize w3.drewN 1 = w3d at *
  have s1 := HS3d.out.frozenAt i
  have s2 := HS3d.out.cellAt i (by omega)
  rw [slotCells_get (by omega)] at s2
  go_upto_region 10 with fail
  clear s1 s2
  have HB8 := Lib.hid (HB3d.out.set ⟨sb, i, none⟩ (.pointer none) (.inr (.inr (.inl (by rw [HSV.out]; rfl)))))
  have HR8 := Lib.hid (HR3d.out.far (p := ⟨sb, i, none⟩) (v := .pointer none) (show bp ≠ sb by omega))
  have HS8 := Lib.hid (HS3d.out.stored i (.pointer none)).1
  have HX8 := Lib.hid (HX3d.out.far (p := ⟨sb, i, none⟩) (v := .pointer none) (show x.blk ≠ sb by omega))
  have HW8 := Lib.hid (HW3d.out.far (p := ⟨sb, i, none⟩) (v := .pointer none) (show x.rb ≠ sb by omega))
  have HY8 := Lib.hid (HY3d.out.far (p := ⟨sb, i, none⟩) (v := .pointer none) (show y.blk ≠ sb by omega))
  have HMAP8 := Lib.hid (HMAP3d.out.set_ne (p := sb) (o := i) (x := .pointer none) (show B.mp ≠ sb by omega))
  clear HB3d HR3d HS3d HX3d HW3d HY3d HMAP3d
  generalize w3d.setCell ⟨sb, i, none⟩ (.pointer none) = w8 at *
  have p4 := HR8.out.cell 4
  have q4 := HR8.out.frozen 4
  simp only [List.getElem?_cons_zero, List.getElem?_cons_succ] at p4
  have hw4 : wrap64 (((B.N.length : Nat) : Int) - 1) = ((B.N.length : Nat) : Int) - 1 := by have := HN0.out; unfold wrap64; omega
  go_wp2_with fail
  clear p4 q4
  have HB9 := Lib.hid (HB8.out.set ⟨bp, 4, none⟩ (.int .i64 ((B.N.length : Nat) - 1)) (.inl rfl))
  have hHR := HR8.out.set 4 (.int .i64 ((B.N.length : Nat) - 1))
  change Row _ _ _ ([.map (some B.mp), .slice (some ⟨sb, 0, none⟩) n d4, B.gv, .int .i64 B.put, .int .i64 ((B.N.length : Nat) - 1)]) at hHR
  have HR9 := Lib.hid hHR
  clear hHR
  have HS9 := Lib.hid (own_set_ne (b := bp) (o := 4) (x := .int .i64 ((B.N.length : Nat) - 1)) HS8.out (fun e => (show sb ≠ bp by omega) (Option.some.inj e)))
  have HX9 := Lib.hid (HX8.out.far (p := ⟨bp, 4, none⟩) (v := .int .i64 ((B.N.length : Nat) - 1)) (show x.blk ≠ bp by omega))
  have HW9 := Lib.hid (HW8.out.far (p := ⟨bp, 4, none⟩) (v := .int .i64 ((B.N.length : Nat) - 1)) (show x.rb ≠ bp by omega))
  have HY9 := Lib.hid (HY8.out.far (p := ⟨bp, 4, none⟩) (v := .int .i64 ((B.N.length : Nat) - 1)) (show y.blk ≠ bp by omega))
  have HMAP9 := Lib.hid (HMAP8.out.set_ne (p := bp) (o := 4) (x := .int .i64 ((B.N.length : Nat) - 1)) (show B.mp ≠ bp by omega))
  clear HB8 HR8 HS8 HX8 HW8 HY8 HMAP8
  generalize w8.setCell ⟨bp, 4, none⟩ (.int .i64 ((B.N.length : Nat) - 1)) = w9 at *
  go_end0
  refine ⟨rfl, BookTo.cut (i := i) (l1 := (l1 ++ [y])) (l2 := []) H0.out HL.out HI.out HB9.out ?_ ?_ ?_ ?_ ?_ ?_⟩
  · rw [HSV.out, HNE.out]; exact HR9.out
  · have e : (fun k => if k = x.rc.key ∧ ((l1 ++ [y]) ++ [] : List Nd) = [] then none else rowOf B.N k) = rowOf B.N := by
      funext k; rw [if_neg (by simp)]
    rw [e]; exact HMAP9.out
  · rw [HSV.out, HNE.out]; exact HS9.out
  · intro _
    have e1 : pt (((l1 ++ [y]) ++ [] : List Nd).head?.map (·.blk)) = .pointer (some ⟨fb, 0, none⟩) := by rw [HFH.out]; exact HFV.out
    have e2 : pt (((l1 ++ [y]) ++ [] : List Nd).getLast?.map (·.blk)) = .pointer (some ⟨y.blk, 0, none⟩) := by simp [pt]
    rw [e1, e2]; exact HW9.out
  · intro y' hy'
    have : y = y' := by simpa using hy'
    subst this
    exact HY9.out
  · intro z' hz'; cases hz'
set_option maxHeartbeats 8000000 in
set_option maxRecDepth 100000 in
theorem outSS_c (bp : Nat) (B : Bk) (x : Nd) (l1 : List Nd) (y : Nd) (z : Nd) (l2 : List Nd) (w : World) (h : BookAt w bp B) (hN : B.N.length ≤ 100000) (hl : inRow x.rc.key B.N = (l1 ++ [y]) ++ x :: (z :: l2)) :
    Calls Try.prog 29 #[.pointer (some ⟨bp, 0, none⟩), .pointer (some ⟨x.blk, 0, none⟩)] w fun e w' => e = .returned (.tuple #[]) ∧ BookTo w bp B w' (B.cut x.blk) := by
  have H0 := Lib.hid h
  have HL := Lib.hid hl
  have hin : ∀ q ∈ (l1 ++ [y]) ++ x :: (z :: l2), q ∈ B.N ∧ q.rc.key = x.rc.key := fun q hq => inRow_mem (by rw [hl]; exact hq)
  have hbl := inRow_blks h.ok.blks x.rc.key
  rw [hl] at hbl
  obtain ⟨hx, _⟩ := hin x (by simp)
  obtain ⟨i, hi, hgi⟩ := h.ok.slot x hx
  have hil := (List.getElem?_eq_some_iff.1 hgi).1
  have hxok := h.ok.ok x hx
  have hxr := h.mem.node x hx
  have hwr := h.mem.row x hx
  rw [hl] at hxr hwr
  have hxn : x.blk ∉ ((l1 ++ [y]) : List Nd).map (·.blk) := by
    rw [List.map_append, List.map_cons, List.nodup_append] at hbl
    exact fun e => hbl.2.2 _ e _ List.mem_cons_self rfl
  rw [prv_at_mid hxn, nxt_at_mid hxn] at hxr
  obtain ⟨hyN, hyk⟩ := hin y (by simp)
  have hyr := h.mem.node y hyN
  rw [hyk, hl] at hyr
  have hyn : y.blk ∉ l1.map (·.blk) := by
    rw [List.map_append, List.nodup_append, List.map_append, List.nodup_append] at hbl
    exact fun e => hbl.1.2.2 _ e _ (by simp) rfl
  have hynx : nxt ((l1 ++ [y]) ++ x :: (z :: l2)) y.blk = some x.blk := by rw [List.append_assoc]; exact nxt_at_mid hyn
  rw [hynx] at hyr
  have ty := h.ok.t4 y hyN
  have nxy : x.blk ≠ y.blk := fun e => hxn (by rw [e]; simp)
  obtain ⟨hzN, hzk⟩ := hin z (by simp)
  have hzr := h.mem.node z hzN
  rw [hzk, hl] at hzr
  have hzn : z.blk ∉ ((l1 ++ [y]) ++ [x] : List Nd).map (·.blk) := by
    have e : ((l1 ++ [y]) ++ x :: (z :: l2) : List Nd) = (l1 ++ [y]) ++ [x] ++ z :: l2 := by simp
    rw [e, List.map_append, List.map_cons, List.nodup_append] at hbl
    exact fun e => hbl.2.2 _ e _ List.mem_cons_self rfl
  have hzpv : prv ((l1 ++ [y]) ++ x :: (z :: l2)) z.blk = some x.blk := by
    have e : ((l1 ++ [y]) ++ x :: (z :: l2) : List Nd) = (l1 ++ [y]) ++ [x] ++ z :: l2 := by simp
    rw [e, prv_at_mid hzn]; simp
  rw [hzpv] at hzr
  have tz := h.ok.t4 z hzN
  have nxz : x.blk ≠ z.blk := fun e => hzn (by rw [← e]; simp)
  have nyz : y.blk ≠ z.blk := fun e => hzn (by rw [← e]; simp)
  obtain ⟨A4, d4, hsv, hsc⟩ := own_form h.mem.slots
  obtain ⟨sb, hA4, _, _⟩ := hsc i _ (slotCells_get hil)
  subst hA4
  have tb := h.ok.t0
  have tm := h.ok.t1
  have ts := h.ok.t2 sb (by rw [hsv]; rfl)
  have tx := h.ok.t4 x hx
  have tr := h.ok.t5 x hx
  have hbm := h.mem.book
  have hsm := h.mem.slots
  rw [hsv] at hbm hsm
  have HMAP0 := Lib.hid h.mem.map
  have HSV := Lib.hid hsv
  have HI := Lib.hid hi
  have HXN := Lib.hid hx
  have HKO := Lib.hid hxok.key
  have HR0 := Lib.hid hbm
  have HS0 := Lib.hid hsm
  have ela : ((l1 ++ [y]) : List Nd).getLast?.map (fun q => q.blk) = some y.blk := by simp
  have ehd : ((z :: l2) : List Nd).head?.map (fun q => q.blk) = some z.blk := by simp
  rw [ela, ehd] at hxr
  have HX0 := Lib.hid hxr
  change Row _ _ _ [_, _] at hwr
  clear ela ehd
  obtain ⟨fb, hfb⟩ : ∃ fb, ((l1 ++ [y]) ++ x :: (z :: l2) : List Nd).head?.map (fun q => q.blk) = some fb := by cases l1 <;> exact ⟨_, rfl⟩
  obtain ⟨fb', hfb'⟩ : ∃ fb', ((l1 ++ [y]) ++ (z :: l2) : List Nd).head? = ((l1 ++ [y]) ++ x :: (z :: l2) : List Nd).head? ∧ fb' = fb := by cases l1 <;> exact ⟨_, rfl, rfl⟩
  have HFH := Lib.hid hfb'.1
  clear hfb'
  have hfv : pt (((l1 ++ [y]) ++ x :: (z :: l2) : List Nd).head?.map (·.blk)) = .pointer (some ⟨fb, 0, none⟩) := by rw [hfb]; rfl
  clear hfb
  obtain ⟨lv, hlv⟩ : ∃ lv, pt (((l1 ++ [y]) ++ x :: (z :: l2) : List Nd).getLast?.map (·.blk)) = lv := ⟨_, rfl⟩
  rw [hfv, hlv] at hwr
  have HFV := Lib.hid hfv
  have HLV := Lib.hid hlv
  have HW0 := Lib.hid hwr
  have HY0 := Lib.hid hyr
  have HYN := Lib.hid hyN
  have HZ0 := Lib.hid hzr
  have HZN := Lib.hid hzN
  have n1 := tag_ne tb tm (by decide)
  have n2 := tag_ne tb ts (by decide)
  have n3 := tag_ne tb tx (by decide)
  have n4 := tag_ne tb tr (by decide)
  have n5 := tag_ne tb ty (by decide)
  have n6 := tag_ne tb tz (by decide)
  have n7 := tag_ne tm ts (by decide)
  have n8 := tag_ne tm tx (by decide)
  have n9 := tag_ne tm tr (by decide)
  have n10 := tag_ne tm ty (by decide)
  have n11 := tag_ne tm tz (by decide)
  have n12 := tag_ne ts tx (by decide)
  have n13 := tag_ne ts tr (by decide)
  have n14 := tag_ne ts ty (by decide)
  have n15 := tag_ne ts tz (by decide)
  have n16 := tag_ne tx tr (by decide)
  have n17 := tag_ne tr ty (by decide)
  have n18 := tag_ne tr tz (by decide)
  have HN0 := Lib.hid hN
  have HIL := Lib.hid hil
  have HB0 := Lib.hid (But.refl (cutS bp B x (l1 ++ [y]) (z :: l2)) w)
  obtain ⟨n, hn⟩ : ∃ n, B.gens.length = n := ⟨_, rfl⟩
  have hfew := H0.out.ok.few
  rw [hn] at hil HS0 HR0 hfew
  have HNE := Lib.hid hn
  have p0 := HR0.out.cell 0
  obtain ⟨_, _, _, _, a4, a5, a6, _⟩ := Nd.at_ HX0.out
  simp only [List.getElem?_cons_zero, List.getElem?_cons_succ] at p0
  have hlk := fun d => (HMAP0.out.move (w' := w.drewN d) rfl).find HKO.out
  have hlk : ∀ d, (Instr.lookup 70 (.map (some B.mp)) (.agg #[.int .u32 x.rc.os, .int .u32 x.rc.og, .int .i64 x.rc.sd]) false).run Try.prog (w.drewN d) = .ok (.pointer (some ⟨x.rb, 0, none⟩)) (w.drewN d) := fun d => by
    have hro : rowOf B.N x.rc.key = some x.rb := rowOf_mem H0.out.ok HXN.out
    have := hlk d
    rw [hro] at this
    exact this
  have hlk0 := hlk 0
  rw [World.drewN_zero] at hlk0
  clear h hl hin hbl hx hgi hxok hxr hwr hxn hsv hsc hbm hsm hfv hlv hi hyN hyk hyr hyn hynx hzN hzk hzr hzn hzpv hn hN
  clear tb tm ts tx tr ty tz
  go_enter Try.func29, Try.ntmps29
  go_wp2_with fail
  go_quiet (fail)
  have HB1 := Lib.hid (HB0.out.drewN nq)
  have HR1 := Lib.hid (HR0.out.drewN nq)
  have HS1 := Lib.hid (own_move (w' := w.drewN nq) HS0.out fun _ _ => rfl)
  have HX1 := Lib.hid (HX0.out.drewN nq)
  have HW1 := Lib.hid (HW0.out.drewN nq)
  have HY1 := Lib.hid (HY0.out.drewN nq)
  have HZ1 := Lib.hid (HZ0.out.drewN nq)
  have HMAP1 := Lib.hid (HMAP0.out.move (w' := w.drewN nq) rfl)
  clear p0 a4 a5 a6 hlk hlk0 HB0 HR0 HS0 HX0 HW0 HY0 HZ0 HMAP0
  generalize w.drewN nq = w1 at *
  obtain ⟨x0, _, _, _, a4, a5, a6, _, _, _, _, _, x12, x13⟩ := Nd.at_ HX1.out
  simp only [pt] at x12 x13
  have y13 := HY1.out.cell 13
  have t0 := HY1.out.frozen 13
  change _ = some (pt (some x.blk)) at y13
  simp only [pt] at y13
  have hen := fun w => run_eql_some_nil ⟨y.blk, 0, none⟩ w
  go_wp2_with fail
  go_still_tail 10, (by kernel_rfl)
  clear x0 a4 a5 a6 x12 x13 y13 t0 hen
  have HB1a := Lib.hid (HB1.out.drewN 1)
  have HR1a := Lib.hid (HR1.out.drewN 1)
  have HS1a := Lib.hid (own_move (w' := w1.drewN 1) HS1.out fun _ _ => rfl)
  have HX1a := Lib.hid (HX1.out.drewN 1)
  have HW1a := Lib.hid (HW1.out.drewN 1)
  have HY1a := Lib.hid (HY1.out.drewN 1)
  have HZ1a := Lib.hid (HZ1.out.drewN 1)
  have HMAP1a := Lib.hid (HMAP1.out.move (w' := w1.drewN 1) rfl)
  clear HB1 HR1 HS1 HX1 HW1 HY1 HZ1 HMAP1
  change wpList _ _ _ _ _ (w1.drewN 1)
  generalize w1.drewN 1 = w1a at *
  have y13 := HY1a.out.cell 13
  have t0 := HY1a.out.frozen 13
  change _ = some (pt (some x.blk)) at y13
  simp only [pt] at y13
  go_upto_region 4 with fail
  clear y13 t0
  have HB2 := Lib.hid (HB1a.out.set ⟨y.blk, 13, none⟩ (.pointer (some ⟨z.blk, 0, none⟩)) (.inr (.inr (.inr (.inr (.inl (by simp)))))))
  have HR2 := Lib.hid (HR1a.out.far (p := ⟨y.blk, 13, none⟩) (v := .pointer (some ⟨z.blk, 0, none⟩)) (show bp ≠ y.blk by omega))
  have HS2 := Lib.hid (own_set_ne (b := y.blk) (o := 13) (x := .pointer (some ⟨z.blk, 0, none⟩)) HS1a.out (fun e => (show sb ≠ y.blk by omega) (Option.some.inj e)))
  have HX2 := Lib.hid (HX1a.out.far (p := ⟨y.blk, 13, none⟩) (v := .pointer (some ⟨z.blk, 0, none⟩)) (show x.blk ≠ y.blk by omega))
  have HW2 := Lib.hid (HW1a.out.far (p := ⟨y.blk, 13, none⟩) (v := .pointer (some ⟨z.blk, 0, none⟩)) (show x.rb ≠ y.blk by omega))
  have hHY := HY1a.out.set 13 (.pointer (some ⟨z.blk, 0, none⟩))
  change Row _ _ _ (y.cells (prv ((l1 ++ [y]) ++ x :: (z :: l2)) y.blk) (some z.blk)) at hHY
  have HY2 := Lib.hid hHY
  clear hHY
  have HZ2 := Lib.hid (HZ1a.out.far (p := ⟨y.blk, 13, none⟩) (v := .pointer (some ⟨z.blk, 0, none⟩)) (show z.blk ≠ y.blk by omega))
  have HMAP2 := Lib.hid (HMAP1a.out.set_ne (p := y.blk) (o := 13) (x := .pointer (some ⟨z.blk, 0, none⟩)) (show B.mp ≠ y.blk by omega))
  clear HB1a HR1a HS1a HX1a HW1a HY1a HZ1a HMAP1a
  generalize w1a.setCell ⟨y.blk, 13, none⟩ (.pointer (some ⟨z.blk, 0, none⟩)) = w2 at *
  obtain ⟨x0, _, _, _, a4, a5, a6, _, _, _, _, _, x12, x13⟩ := Nd.at_ HX2.out
  simp only [pt] at x12 x13
  have z12 := HZ2.out.cell 12
  have t0 := HZ2.out.frozen 12
  change _ = some (pt (some x.blk)) at z12
  simp only [pt] at z12
  have hen := fun w => run_eql_some_nil ⟨z.blk, 0, none⟩ w
  go_wp2_with fail
  go_still_tail 10, (by kernel_rfl)
  clear x0 a4 a5 a6 x12 x13 z12 t0 hen
  have HB2a := Lib.hid (HB2.out.drewN 1)
  have HR2a := Lib.hid (HR2.out.drewN 1)
  have HS2a := Lib.hid (own_move (w' := w2.drewN 1) HS2.out fun _ _ => rfl)
  have HX2a := Lib.hid (HX2.out.drewN 1)
  have HW2a := Lib.hid (HW2.out.drewN 1)
  have HY2a := Lib.hid (HY2.out.drewN 1)
  have HZ2a := Lib.hid (HZ2.out.drewN 1)
  have HMAP2a := Lib.hid (HMAP2.out.move (w' := w2.drewN 1) rfl)
  clear HB2 HR2 HS2 HX2 HW2 HY2 HZ2 HMAP2
  change wpList _ _ _ _ _ (w2.drewN 1)
  generalize w2.drewN 1 = w2a at *
  have z12 := HZ2a.out.cell 12
  have t0 := HZ2a.out.frozen 12
  change _ = some (pt (some x.blk)) at z12
  simp only [pt] at z12
  go_upto_region 7 with fail
  clear z12 t0
  have HB3 := Lib.hid (HB2a.out.set ⟨z.blk, 12, none⟩ (.pointer (some ⟨y.blk, 0, none⟩)) (.inr (.inr (.inr (.inr (.inr (by simp)))))))
  have HR3 := Lib.hid (HR2a.out.far (p := ⟨z.blk, 12, none⟩) (v := .pointer (some ⟨y.blk, 0, none⟩)) (show bp ≠ z.blk by omega))
  have HS3 := Lib.hid (own_set_ne (b := z.blk) (o := 12) (x := .pointer (some ⟨y.blk, 0, none⟩)) HS2a.out (fun e => (show sb ≠ z.blk by omega) (Option.some.inj e)))
  have HX3 := Lib.hid (HX2a.out.far (p := ⟨z.blk, 12, none⟩) (v := .pointer (some ⟨y.blk, 0, none⟩)) (show x.blk ≠ z.blk by omega))
  have HW3 := Lib.hid (HW2a.out.far (p := ⟨z.blk, 12, none⟩) (v := .pointer (some ⟨y.blk, 0, none⟩)) (show x.rb ≠ z.blk by omega))
  have HY3 := Lib.hid (HY2a.out.far (p := ⟨z.blk, 12, none⟩) (v := .pointer (some ⟨y.blk, 0, none⟩)) (show y.blk ≠ z.blk by omega))
  have hHZ := HZ2a.out.set 12 (.pointer (some ⟨y.blk, 0, none⟩))
  change Row _ _ _ (z.cells (some y.blk) (nxt ((l1 ++ [y]) ++ x :: (z :: l2)) z.blk)) at hHZ
  have HZ3 := Lib.hid hHZ
  clear hHZ
  have HMAP3 := Lib.hid (HMAP2a.out.set_ne (p := z.blk) (o := 12) (x := .pointer (some ⟨y.blk, 0, none⟩)) (show B.mp ≠ z.blk by omega))
  clear HB2a HR2a HS2a HX2a HW2a HY2a HZ2a HMAP2a
  generalize w2a.setCell ⟨z.blk, 12, none⟩ (.pointer (some ⟨y.blk, 0, none⟩)) = w3 at *
  have r0 := HW3.out.cell 0
  simp only [List.getElem?_cons_zero, List.getElem?_cons_succ] at r0
  obtain ⟨x0, _, _, _, a4, a5, a6, _, _, _, _, _, x12, x13⟩ := Nd.at_ HX3.out
  simp only [pt] at x12 x13
  have hen := fun w => run_eql_some_nil ⟨fb, 0, none⟩ w
  go_upto_region 9 with fail
  clear x0 a4 a5 a6 x12 x13 r0 hen
  have p1 := HR3.out.cell 1
  have s1 := HS3.out.frozenAt i
  have s2 := HS3.out.cellAt i (by omega)
  rw [slotCells_get (by omega)] at s2
  obtain ⟨x0, _⟩ := Nd.at_ HX3.out
  rw [HI.out] at x0
  simp only [List.getElem?_cons_zero, List.getElem?_cons_succ] at p1
  have hw : IntKind.u32.wrap ((i : Int) + 1 - 1) = (i : Int) := by simp [IntKind.wrap, IntKind.bits, IntKind.signed]; omega
  have hw' : IntKind.u32.wrap (i : Int) = (i : Int) := by simp [IntKind.wrap, IntKind.bits, IntKind.signed]; omega
  have i0 : (0 : Int) ≤ (i : Int) := by omega
  have i1 : (i : Int) < (n : Int) := by omega
  go_still_tail 12, (by kernel_rfl)
  clear p1 s1 s2 x0
  have HB3d := Lib.hid (HB3.out.drewN 1)
  have HR3d := Lib.hid (HR3.out.drewN 1)
  have HS3d := Lib.hid (own_move (w' := w3.drewN 1) HS3.out fun _ _ => rfl)
  have HX3d := Lib.hid (HX3.out.drewN 1)
  have HW3d := Lib.hid (HW3.out.drewN 1)
  have HY3d := Lib.hid (HY3.out.drewN 1)
  have HZ3d := Lib.hid (HZ3.out.drewN 1)
  have HMAP3d := Lib.hid (HMAP3.out.move (w' := w3.drewN 1) rfl)
  clear HB3 HR3 HS3 HX3 HW3 HY3 HZ3 HMAP3
  change wpList _ _ _ _ _ (w3.drewN 1)
  generalize w3.drewN 1 = w3d at *
  have s1 := HS3d.out.frozenAt i
  have s2 := HS3d.out.cellAt i (by omega)
  rw [slotCells_get (by omega)] at s2
  go_upto_region 10 with fail
  clear s1 s2
  have HB8 := Lib.hid (HB3d.out.set ⟨sb, i, none⟩ (.pointer none) (.inr (.inr (.inl (by rw [HSV.out]; rfl)))))
  have HR8 := Lib.hid (HR3d.out.far (p := ⟨sb, i, none⟩) (v := .pointer none) (show bp ≠ sb by omega))
  have HS8 := Lib.hid (HS3d.out.stored i (.pointer none)).1
  have HX8 := Lib.hid (HX3d.out.far (p := ⟨sb, i, none⟩) (v := .pointer none) (show x.blk ≠ sb by omega))
  have HW8 := Lib.hid (HW3d.out.far (p := ⟨sb, i, none⟩) (v := .pointer none) (show x.rb ≠ sb by omega))
  have HY8 := Lib.hid (HY3d.out.far (p := ⟨sb, i, none⟩) (v := .pointer none) (show y.blk ≠ sb by omega))
  have HZ8 := Lib.hid (HZ3d.out.far (p := ⟨sb, i, none⟩) (v := .pointer none) (show z.blk ≠ sb by omega))
  have HMAP8 := Lib.hid (HMAP3d.out.set_ne (p := sb) (o := i) (x := .pointer none) (show B.mp ≠ sb by omega))
  clear HB3d HR3d HS3d HX3d HW3d HY3d HZ3d HMAP3d
  generalize w3d.setCell ⟨sb, i, none⟩ (.pointer none) = w8 at *
  have p4 := HR8.out.cell 4
  have q4 := HR8.out.frozen 4
  simp only [List.getElem?_cons_zero, List.getElem?_cons_succ] at p4
  have hw4 : wrap64 (((B.N.length : Nat) : Int) - 1) = ((B.N.length : Nat) : Int) - 1 := by have := HN0.out; unfold wrap64; omega
  go_wp2_with fail
  clear p4 q4
  have HB9 := Lib.hid (HB8.out.set ⟨bp, 4, none⟩ (.int .i64 ((B.N.length : Nat) - 1)) (.inl rfl))
  have hHR := HR8.out.set 4 (.int .i64 ((B.N.length : Nat) - 1))
  change Row _ _ _ ([.map (some B.mp), .slice (some ⟨sb, 0, none⟩) n d4, B.gv, .int .i64 B.put, .int .i64 ((B.N.length : Nat) - 1)]) at hHR
  have HR9 := Lib.hid hHR
  clear hHR
  have HS9 := Lib.hid (own_set_ne (b := bp) (o := 4) (x := .int .i64 ((B.N.length : Nat) - 1)) HS8.out (fun e => (show sb ≠ bp by omega) (Option.some.inj e)))
  have HX9 := Lib.hid (HX8.out.far (p := ⟨bp, 4, none⟩) (v := .int .i64 ((B.N.length : Nat) - 1)) (show x.blk ≠ bp by omega))
  have HW9 := Lib.hid (HW8.out.far (p := ⟨bp, 4, none⟩) (v := .int .i64 ((B.N.length : Nat) - 1)) (show x.rb ≠ bp by omega))
  have HY9 := Lib.hid (HY8.out.far (p := ⟨bp, 4, none⟩) (v := .int .i64 ((B.N.length : Nat) - 1)) (show y.blk ≠ bp by omega))
  have HZ9 := Lib.hid (HZ8.out.far (p := ⟨bp, 4, none⟩) (v := .int .i64 ((B.N.length : Nat) - 1)) (show z.blk ≠ bp by omega))
  have HMAP9 := Lib.hid (HMAP8.out.set_ne (p := bp) (o := 4) (x := .int .i64 ((B.N.length : Nat) - 1)) (show B.mp ≠ bp by omega))
  clear HB8 HR8 HS8 HX8 HW8 HY8 HZ8 HMAP8
  generalize w8.setCell ⟨bp, 4, none⟩ (.int .i64 ((B.N.length : Nat) - 1)) = w9 at *
  go_end0
  refine ⟨rfl, BookTo.cut (i := i) (l1 := (l1 ++ [y])) (l2 := (z :: l2)) H0.out HL.out HI.out HB9.out ?_ ?_ ?_ ?_ ?_ ?_⟩
  · rw [HSV.out, HNE.out]; exact HR9.out
  · have e : (fun k => if k = x.rc.key ∧ ((l1 ++ [y]) ++ (z :: l2) : List Nd) = [] then none else rowOf B.N k) = rowOf B.N := by
      funext k; rw [if_neg (by simp)]
    rw [e]; exact HMAP9.out
  · rw [HSV.out, HNE.out]; exact HS9.out
  · intro _
    have e1 : pt (((l1 ++ [y]) ++ (z :: l2) : List Nd).head?.map (·.blk)) = .pointer (some ⟨fb, 0, none⟩) := by rw [HFH.out]; exact HFV.out
    have e2 : pt (((l1 ++ [y]) ++ (z :: l2) : List Nd).getLast?.map (·.blk)) = lv := by rw [← HLV.out]; simp [List.getLast?_append, List.getLast?_cons_cons]
    rw [e1, e2]; exact HW9.out
  · intro y' hy'
    have : y = y' := by simpa using hy'
    subst this
    exact HY9.out
  · intro z' hz'
    have : z = z' := Option.some.inj hz'
    subst this
    have e : ((l1 ++ [y]) : List Nd).getLast?.map (·.blk) = some y.blk := by simp
    rw [e]; exact HZ9.out
end Go.Proofs.Ytkdiibgjkipdnaa
