/-
  New, Make, may of locks.
-/
import Derived.Test.YtkdiibgjkipdnaaLkA
namespace Go.Proofs.Ytkdiibgjkipdnaa
open Go.RowKit Go.Maps
set_option linter.unusedSimpArgs false

theorem eql_book_nil (a : Addr) (w : World) : (binOp .eql 24 (.pointer (some a)) (.pointer none)).run Try.prog w = .ok (.bool false) w := by kernel_rfl
theorem eql_locks_nil (a : Addr) (w : World) : (binOp .eql 26 (.pointer (some a)) (.pointer none)).run Try.prog w = .ok (.bool false) w := by kernel_rfl
theorem eql_thing_nil (w : World) : (binOp .eql 79 .nilIface .nilIface).run Try.prog w = .ok (.bool true) w := by kernel_rfl
theorem neq_thing_nil (w : World) : (binOp .neq 79 .nilIface .nilIface).run Try.prog w = .ok (.bool false) w := by kernel_rfl
theorem eql_mutex_nil (b : Nat) (w : World) : (binOp .eql 79 (mutexV b) .nilIface).run Try.prog w = .ok (.bool false) w := by kernel_rfl
theorem eql_group_nil (b : Nat) (w : World) : (binOp .eql 79 (groupV b) .nilIface).run Try.prog w = .ok (.bool false) w := by kernel_rfl
set_option maxHeartbeats 2000000 in
theorem locksNew_c (bp : Nat) (B : Bk) (w : World) (h : BookAt w bp B) :
    Calls Try.prog 7 #[.pointer (some ⟨bp, 0, none⟩)] w fun e w' => e = .returned (.tuple #[.pointer (some ⟨w.heap.size + 1, 0, none⟩), .int .i64 0]) ∧ LkAt w' (w.heap.size + 1) w.heap.size bp 0 (fun _ _ => .nilIface) B ∧ Below w.heap.size w w' := by
  have hmm := @run_makeMap Try.prog
  have e0 := fun w => eql_book_nil ⟨bp, 0, none⟩ w
  have H := Lib.hid h
  clear h
  go_enter Try.func7, Try.ntmps7
  go_wp2
  go_ret2
  have e1 : (w.alloc (.map #[] 0)).heap.size = w.heap.size + 1 := by simp
  have hR := Row.new (w.alloc (.map #[] 0)) 77 [.pointer (some ⟨bp, 0, none⟩), .map (some w.heap.size)]
  rw [e1] at hR
  have hM : HMap ((w.alloc (.map #[] 0)).alloc (.cells #[.pointer (some ⟨bp, 0, none⟩), .map (some w.heap.size)] 77)) .nilIface w.heap.size 0 fun _ _ => .nilIface := (HMap.made w .nilIface).move (by
    show ((w.alloc (.map #[] 0)).heap.push _)[w.heap.size]? = _
    rw [Array.getElem?_push, if_neg (by rw [e1]; omega)])
  have hB : Below w.heap.size w ((w.alloc (.map #[] 0)).alloc (.cells #[.pointer (some ⟨bp, 0, none⟩), .map (some w.heap.size)] 77)) := ((Below.refl _ _).alloc (Nat.le_refl _) _).alloc (by omega) _
  refine ⟨rfl, ⟨hR, hM, H.out.below hB, fun e => ?_, fun e => ?_⟩, hB⟩
  · have := H.out.mem.lt e; omega
  · have := H.out.mem.lt e; omega
/-- handle(slot) -/
theorem handle_c (n : Nat) (w : World) (hn : n ≤ 100000) : Calls Try.prog 9 #[.int .i64 n] w fun e w' => e = .returned (.agg #[.int .u32 n, .int .u32 1]) ∧ Below w.heap.size w w' := by
  have hw : IntKind.u32.wrap (n : Int) = (n : Int) := by simp [IntKind.wrap, IntKind.bits, IntKind.signed]; omega
  go_enter Try.func9, Try.ntmps9
  go_wp2
  have hR := Row.new w 35 [.int .u32 n, .int .u32 1]
  change Row (w.alloc (.cells #[.int .u32 n, .int .u32 1] 35)) _ _ _ at hR
  (try simp only [Exit.inBlock, Exit.then]); refine bodyPost_ret (results_cell_row rfl _ _ w.heap.size 35 #[.int .u32 n, .int .u32 1] (0, 0) _ rfl hR Try.underlying35 rfl (by kernel_rfl)) rfl ?_
  exact ⟨rfl, (Below.refl _ _).alloc (Nat.le_refl _) _⟩
theorem len_zero_iff {α : Type} {l : List α} {n : Nat} (h : l.length = n) : (0 < (n : Int)) ↔ l ≠ [] := by
  cases l with
  | nil => simp at h; subst h; simp
  | cons a l => simp at h; subst h; simp
def mayV (N : List Nd) (hs hg : Int) : Int := if sameH hs hg 0 0 = true then 1 else if (N.filter fun x => sameH x.rc.hs x.rc.hg hs hg) = [] then 0 else 163
set_option maxHeartbeats 2000000 in
set_option maxRecDepth 100000 in
theorem may_c (lp mp bp mn : Nat) (f : Int → Int → Value) (B : Bk) (hs hg : Int) (w : World) (h : LkAt w lp mp bp mn f B) (hser : ∀ x ∈ B.N, 0 ≤ x.ser) :
    Calls Try.prog 19 #[.pointer (some ⟨lp, 0, none⟩), .agg #[.int .u32 hs, .int .u32 hg]] w fun e w' => e = .returned (.int .i64 (mayV B.N hs hg)) ∧ Below w.heap.size w w' := by
  have hA : Below w.heap.size w (w.alloc (.cells #[.int .u32 hs, .int .u32 hg] 35)) := (Below.refl _ _).alloc (Nat.le_refl _) _
  have hR := Row.new w 35 [.int .u32 hs, .int .u32 hg]
  change Row (w.alloc (.cells #[.int .u32 hs, .int .u32 hg] 35)) _ _ _ at hR
  have HA := Lib.hid hA
  have HL := Lib.hid (h.below hA)
  have r0 := hR.cell 0
  have r1 := hR.cell 1
  have c0 := HL.out.obj.cell 0
  dsimp only [List.getElem?_cons_zero, List.getElem?_cons_succ] at r0 r1 c0
  have HSER := Lib.hid hser
  have e0 := fun w => eql_locks_nil ⟨lp, 0, none⟩ w
  have e1 := fun w => run_eql_handle hs hg 0 0 w
  have HR := Lib.hid hR
  clear h hA hR hser
  cases hz : sameH hs hg 0 0 with
  | true =>
    rw [hz] at e1
    have HV : Hid (mayV B.N hs hg = 1) := Lib.hid (by unfold mayV; rw [hz, if_pos rfl])
    clear hz
    go_enter Try.func19, Try.ntmps19
    go_wp2
    go_ret
    exact ⟨by rw [HV.out]; rfl, HA.out⟩
  | false =>
    rw [hz] at e1
    have HZ := Lib.hid hz
    clear hz
    go_enter Try.func19, Try.ntmps19
    go_upto_region 3 with fail
    generalize w.alloc (.cells #[.int .u32 hs, .int .u32 hg] 35) = w1 at *
    have CO := Lib.hid (fun d => of_c bp B hs hg (w1.drewN d) (HL.out.book.below (below_drewN (Below.refl _ _) d)) HSER.out)
    go_still_tail 5, (by kernel_rfl)
    change wpList _ _ _ _ _ w1.drew
    have CO1 := Lib.hid (CO.out 1)
    go_wp2_with fail
    refine CO1.out.mono ?_
    rintro e w2 ⟨v, rfl, ho, hb⟩
    obtain ⟨A, c, hv, _⟩ := own_form ho
    have HB : Hid (Below w.heap.size w w2) := Lib.hid (HA.out.trans (Below.trans (Below.refl _ _).drew (hb.mono HA.out.size)))
    obtain ⟨n, hn⟩ : ∃ n, ((B.N.filter fun x => sameH x.rc.hs x.rc.hg hs hg).map (·.rc)).length = n := ⟨_, rfl⟩
    rw [hn] at hv
    rw [List.length_map] at hn
    have HN := Lib.hid (len_zero_iff hn)
    subst hv
    clear ho hb hn CO CO1
    by_cases h0 : (0 : Int) < (n : Int)
    · have d0 : decide (0 < n) = true := decide_eq_true (by omega)
      have hne := HN.out.1 h0
      have HV : Hid (mayV B.N hs hg = 163) := Lib.hid (by unfold mayV; rw [HZ.out, if_neg (by decide), if_neg hne])
      clear h0 hne
      go_wp2
      go_ret
      exact ⟨by rw [HV.out]; rfl, HB.out⟩
    · have d0 : decide (0 < n) = false := decide_eq_false (by omega)
      have hne : (B.N.filter fun x => sameH x.rc.hs x.rc.hg hs hg) = [] := Decidable.byContradiction fun e => h0 (HN.out.2 e)
      have HV : Hid (mayV B.N hs hg = 0) := Lib.hid (by unfold mayV; rw [HZ.out, if_neg (by decide), if_pos hne])
      clear h0 hne
      go_wp2
      go_ret
      exact ⟨by rw [HV.out]; rfl, HB.out⟩
def didV (fate : Int) (woken : Value) : Value := .agg #[.int .i64 fate, .int .i64 0, .int .u32 0, .int .u32 0, .bool false, woken]
theorem wf_nat32 {n : Nat} (h : n ≤ 100000) : (Lit.int .u32 (n : Int)).wf = true := by
  simp [Lit.wf, IntKind.min, IntKind.max, IntKind.signed, IntKind.bits]; omega
set_option maxHeartbeats 2000000 in
set_option maxRecDepth 100000 in
theorem makeMutex_c (lp mp bp mn : Nat) (f : Int → Int → Value) (B : Bk) (s g : Int) (w : World) (h : LkAt w lp mp bp mn f B) (hs : (Lit.int .u32 s).wf = true) (hg : (Lit.int .u32 g).wf = true) (hne : sameH s g 0 0 = false) (hf : f s g = .nilIface) (hmn : mn ≤ 100000) :
    Calls Try.prog 8 #[.pointer (some ⟨lp, 0, none⟩), .agg #[.int .u32 s, .int .u32 g], .int .i64 2] w fun e w' => e = .returned (.int .i64 0) ∧ ∃ b, w.heap.size ≤ b ∧ Row w' b 82 [.int .u32 0, .int .u32 0] ∧ LkAt w' lp mp bp (mn + 1) (fun s' g' => if s' = s ∧ g' = g then mutexV b else f s' g') B ∧ But (fun k => k = mp) w w' := by
  have e0 := fun w => eql_locks_nil ⟨lp, 0, none⟩ w
  have e1 := fun w => run_eql_handle s g 0 0 w
  rw [hne] at e1
  have e2 := neq_thing_nil
  have e3 := fun b w => eql_mutex_nil b w
  unfold mutexV at e3
  have hA : Below w.heap.size w ((w.alloc (.cells #[.int .u32 s, .int .u32 g] 35)).alloc (.cells #[.int .u32 0, .int .u32 0] 82)) := ((Below.refl _ _).alloc (Nat.le_refl _) _).alloc (by simp) _
  have hR := (Row.new w 35 [.int .u32 s, .int .u32 g]).alloc (.cells #[.int .u32 0, .int .u32 0] 82)
  change Row ((w.alloc (.cells #[.int .u32 s, .int .u32 g] 35)).alloc (.cells #[.int .u32 0, .int .u32 0] 82)) _ _ _ at hR
  have hM := Row.new (w.alloc (.cells #[.int .u32 s, .int .u32 g] 35)) 82 [.int .u32 0, .int .u32 0]
  rw [show (w.alloc (.cells #[.int .u32 s, .int .u32 g] 35)).heap.size = w.heap.size + 1 by simp] at hM
  change Row ((w.alloc (.cells #[.int .u32 s, .int .u32 g] 35)).alloc (.cells #[.int .u32 0, .int .u32 0] 82)) _ _ _ at hM
  have H := Lib.hid (h.below hA)
  have HF := Lib.hid hf
  have HM := Lib.hid hM
  have HA := Lib.hid hA
  have HR := Lib.hid hR
  have HWF := Lib.hid (And.intro hs hg)
  have r0 := hR.cell 0
  have r1 := hR.cell 1
  have c1 := H.out.obj.cell 1
  dsimp only [List.getElem?_cons_zero, List.getElem?_cons_succ] at r0 r1 c1
  clear h hne hf hA hR hM hs hg
  go_enter Try.func8, Try.ntmps8
  go_upto_region 9 with fail
  generalize (w.alloc (.cells #[.int .u32 s, .int .u32 g] 35)).alloc (.cells #[.int .u32 0, .int .u32 0] 82) = w1 at *
  have hl : ∀ d, (Instr.lookup 75 (.map (some mp)) (.agg #[.int .u32 s, .int .u32 g]) false).run Try.prog (w1.drewN d) = .ok .nilIface (w1.drewN d) := fun d => by
    have := (H.out.map.move (w' := w1.drewN d) rfl).find Try.underlying75 zeroThing HWF.out.1 HWF.out.2
    rw [HF.out] at this
    exact this
  have hl0 := hl 0
  rw [World.drewN_zero] at hl0
  go_quiet (fail)
  go_wp2_with fail
  have H2 := Lib.hid (H.out.below (below_drewN (Below.refl _ _) nq))
  have HA2 := Lib.hid (below_drewN HA.out nq)
  have HM2 := Lib.hid (HM.out.drewN nq)
  have r0 : (w1.drewN nq).cell? ⟨w.heap.size, 0, none⟩ = _ := r0
  have r1 : (w1.drewN nq).cell? ⟨w.heap.size, 1, none⟩ = _ := r1
  have c1 : (w1.drewN nq).cell? ⟨lp, 1, none⟩ = _ := c1
  clear hl hl0 H HA HM HR
  generalize w1.drewN nq = w2 at *
  obtain ⟨w3, hr3, hg3, hm3⟩ := (H2.out.map.move (w' := w2.drew) rfl).put Try.underlying75 (by unfold maxLen; omega) HWF.out.1 HWF.out.2 (mutexV (w.heap.size + 1))
  have HG3 := Lib.hid hg3
  have HM3 := Lib.hid hm3
  unfold mutexV at hr3
  clear hg3 hm3
  go_still_tail 6, (by kernel_rfl)
  change wpList _ _ _ _ _ w2.drew
  go_wp2_with fail
  go_ret
  have hmp : w.heap.size + 1 ≠ mp := fun e => by
    have h1 := HM2.out
    obtain ⟨D, ⟨es, clock, k1, _⟩, _⟩ := H2.out.map.ex
    unfold Row at h1
    rw [e, k1] at h1
    cases h1
  have hlp : lp ≠ mp := fun e => by
    have h1 := H2.out.obj
    obtain ⟨D, ⟨es, clock, k1, _⟩, _⟩ := H2.out.map.ex
    unfold Row at h1
    rw [e, k1] at h1
    cases h1
  have hk : ∀ k, k < w2.heap.size → k ≠ mp → w3.heap[k]? = w2.heap[k]? := fun k hk hn => HG3.out.block k hk (fun e => hn (Option.some.inj e))
  refine ⟨rfl, w.heap.size + 1, by omega, (hk _ HM2.out.lt hmp).trans HM2.out, ⟨(hk _ H2.out.obj.lt hlp).trans H2.out.obj, HM3.out, H2.out.book.move fun b hb => hk b (H2.out.book.mem.lt hb) (fun e => H2.out.n2 (e ▸ hb)), H2.out.n1, H2.out.n2⟩, ?_⟩
  exact ⟨HG3.out.os.trans HA2.out.os, HG3.out.tape.trans HA2.out.tape, HG3.out.output.trans HA2.out.output, Nat.le_trans HA2.out.size HG3.out.size, fun k hk2 hn => (hk k (Nat.lt_of_lt_of_le hk2 HA2.out.size) hn).trans (HA2.out.block k hk2)⟩
set_option maxHeartbeats 2000000 in
set_option maxRecDepth 100000 in
theorem makeGroup_c (lp mp bp mn : Nat) (f : Int → Int → Value) (B : Bk) (s g : Int) (w : World) (h : LkAt w lp mp bp mn f B) (hs : (Lit.int .u32 s).wf = true) (hg : (Lit.int .u32 g).wf = true) (hne : sameH s g 0 0 = false) (hf : f s g = .nilIface) (hmn : mn ≤ 100000) :
    Calls Try.prog 8 #[.pointer (some ⟨lp, 0, none⟩), .agg #[.int .u32 s, .int .u32 g], .int .i64 3] w fun e w' => e = .returned (.int .i64 0) ∧ ∃ b, w.heap.size ≤ b ∧ Row w' b 85 [.int .i64 0] ∧ LkAt w' lp mp bp (mn + 1) (fun s' g' => if s' = s ∧ g' = g then groupV b else f s' g') B ∧ But (fun k => k = mp) w w' := by
  have e0 := fun w => eql_locks_nil ⟨lp, 0, none⟩ w
  have e1 := fun w => run_eql_handle s g 0 0 w
  rw [hne] at e1
  have e2 := neq_thing_nil
  have e3 := fun b w => eql_group_nil b w
  unfold groupV at e3
  have hA : Below w.heap.size w ((w.alloc (.cells #[.int .u32 s, .int .u32 g] 35)).alloc (.cells #[.int .i64 0] 85)) := ((Below.refl _ _).alloc (Nat.le_refl _) _).alloc (by simp) _
  have hR := (Row.new w 35 [.int .u32 s, .int .u32 g]).alloc (.cells #[.int .i64 0] 85)
  change Row ((w.alloc (.cells #[.int .u32 s, .int .u32 g] 35)).alloc (.cells #[.int .i64 0] 85)) _ _ _ at hR
  have hM := Row.new (w.alloc (.cells #[.int .u32 s, .int .u32 g] 35)) 85 [.int .i64 0]
  rw [show (w.alloc (.cells #[.int .u32 s, .int .u32 g] 35)).heap.size = w.heap.size + 1 by simp] at hM
  change Row ((w.alloc (.cells #[.int .u32 s, .int .u32 g] 35)).alloc (.cells #[.int .i64 0] 85)) _ _ _ at hM
  have H := Lib.hid (h.below hA)
  have HF := Lib.hid hf
  have HM := Lib.hid hM
  have HA := Lib.hid hA
  have HR := Lib.hid hR
  have HWF := Lib.hid (And.intro hs hg)
  have r0 := hR.cell 0
  have r1 := hR.cell 1
  have c1 := H.out.obj.cell 1
  dsimp only [List.getElem?_cons_zero, List.getElem?_cons_succ] at r0 r1 c1
  clear h hne hf hA hR hM hs hg
  go_enter Try.func8, Try.ntmps8
  go_upto_region 9 with fail
  generalize (w.alloc (.cells #[.int .u32 s, .int .u32 g] 35)).alloc (.cells #[.int .i64 0] 85) = w1 at *
  have hl : ∀ d, (Instr.lookup 75 (.map (some mp)) (.agg #[.int .u32 s, .int .u32 g]) false).run Try.prog (w1.drewN d) = .ok .nilIface (w1.drewN d) := fun d => by
    have := (H.out.map.move (w' := w1.drewN d) rfl).find Try.underlying75 zeroThing HWF.out.1 HWF.out.2
    rw [HF.out] at this
    exact this
  have hl0 := hl 0
  rw [World.drewN_zero] at hl0
  go_quiet (fail)
  go_wp2_with fail
  have H2 := Lib.hid (H.out.below (below_drewN (Below.refl _ _) nq))
  have HA2 := Lib.hid (below_drewN HA.out nq)
  have HM2 := Lib.hid (HM.out.drewN nq)
  have r0 : (w1.drewN nq).cell? ⟨w.heap.size, 0, none⟩ = _ := r0
  have r1 : (w1.drewN nq).cell? ⟨w.heap.size, 1, none⟩ = _ := r1
  have c1 : (w1.drewN nq).cell? ⟨lp, 1, none⟩ = _ := c1
  clear hl hl0 H HA HM HR
  generalize w1.drewN nq = w2 at *
  obtain ⟨w3, hr3, hg3, hm3⟩ := (H2.out.map.move (w' := w2.drew) rfl).put Try.underlying75 (by unfold maxLen; omega) HWF.out.1 HWF.out.2 (groupV (w.heap.size + 1))
  have HG3 := Lib.hid hg3
  have HM3 := Lib.hid hm3
  unfold groupV at hr3
  clear hg3 hm3
  go_still_tail 6, (by kernel_rfl)
  change wpList _ _ _ _ _ w2.drew
  go_wp2_with fail
  go_ret
  have hmp : w.heap.size + 1 ≠ mp := fun e => by
    have h1 := HM2.out
    obtain ⟨D, ⟨es, clock, k1, _⟩, _⟩ := H2.out.map.ex
    unfold Row at h1
    rw [e, k1] at h1
    cases h1
  have hlp : lp ≠ mp := fun e => by
    have h1 := H2.out.obj
    obtain ⟨D, ⟨es, clock, k1, _⟩, _⟩ := H2.out.map.ex
    unfold Row at h1
    rw [e, k1] at h1
    cases h1
  have hk : ∀ k, k < w2.heap.size → k ≠ mp → w3.heap[k]? = w2.heap[k]? := fun k hk hn => HG3.out.block k hk (fun e => hn (Option.some.inj e))
  refine ⟨rfl, w.heap.size + 1, by omega, (hk _ HM2.out.lt hmp).trans HM2.out, ⟨(hk _ H2.out.obj.lt hlp).trans H2.out.obj, HM3.out, H2.out.book.move fun b hb => hk b (H2.out.book.mem.lt hb) (fun e => H2.out.n2 (e ▸ hb)), H2.out.n1, H2.out.n2⟩, ?_⟩
  exact ⟨HG3.out.os.trans HA2.out.os, HG3.out.tape.trans HA2.out.tape, HG3.out.output.trans HA2.out.output, Nat.le_trans HA2.out.size HG3.out.size, fun k hk2 hn => (hk k (Nat.lt_of_lt_of_le hk2 HA2.out.size) hn).trans (HA2.out.block k hk2)⟩
end Go.Proofs.Ytkdiibgjkipdnaa
