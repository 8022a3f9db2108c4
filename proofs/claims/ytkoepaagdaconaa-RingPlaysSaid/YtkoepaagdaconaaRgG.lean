/-
  All of a ring of numbers: what the iterator does.
-/
import Derived.Test.YtkoepaagdaconaaRgD
import Derived.RangeFuncNested
import Derived.RangeFuncBound
import Derived.RangeFuncCalls
import Derived.RangeFuncLeaves
import Derived.RangeFuncFrom
import Derived.OwnWalkIn
import Derived.TacticsInMore
import Derived.LoopNIn
import Derived.LoopIn
import Derived.Laws.CopyOwn
namespace Go.Proofs.Ytkoepaagdaconaa
open Go.RowKit
set_option linter.unusedSimpArgs false

theorem cut_int (A : Option Addr) (n c k : Nat) (hk : k ≤ n) (hc : n ≤ c) : ∃ A' : Option Addr, (∀ W : World, (Instr.slice 22 (.slice A n c) (some (.int .i64 (k : Int))) none none).run Try.prog W = .ok (.slice A' (n - k) (c - k)) W) ∧ (k < n → A' = A.map (·.add k)) := by
  refine ⟨if c = k then A else A.map (·.add k), fun W => ?_, fun h => by rw [if_neg (by omega)]⟩
  obtain ⟨i0, hi, hz⟩ := Option.map_eq_some_iff.1 RI.info
  simp only [Prod.mk.injEq] at hz
  obtain ⟨_, hz1, _⟩ := hz
  have hel : Try.prog.elem 22 = 3 := by kernel_rfl
  have hu : Try.prog.underlying 22 = some (.slice (Try.prog.elem 22)) := by rw [hel]; exact Try.underlying22
  rw [run_slice_l W 22 A n c hu .i64 k (by omega) (by omega), hel]
  simp [sizeOf, typeInfo, hi, hz1, sliced, Result.andThen]

theorem addr_add (a : Addr) (i j : Nat) : (a.add i).add j = a.add (i + j) := by
  unfold Addr.add
  by_cases h1 : i = 0 <;> by_cases h2 : j = 0 <;> simp [h1, h2, Nat.add_assoc]
/-- what All puts together is what there is -/
theorem RingAt.list {w : World} {T E b g n f : Nat} {vs q : List Value} (h : RingAt w T E b g n f vs q) : (vs.drop f).take q.length ++ vs.take (q.length - min (n - f) q.length) = q := by
  have hl := h.len
  have hf := h.first
  have hw := h.few
  apply List.ext_getElem?
  intro i
  by_cases hi : i < q.length
  · have ha := h.at_ i hi
    rw [← ha]
    by_cases h1 : i < n - f
    · rw [List.getElem?_append_left (by rw [List.length_take, List.length_drop]; omega), List.getElem?_take, if_pos hi, List.getElem?_drop, Nat.mod_eq_of_lt (by omega)]
    · rw [List.getElem?_append_right (by rw [List.length_take, List.length_drop]; omega), List.getElem?_take, List.length_take, List.length_drop, if_pos (by omega)]
      congr 1
      rw [wrapn (by omega), if_neg (by omega)]
      omega
  · rw [List.getElem?_eq_none (by rw [List.length_append, List.length_take, List.length_drop, List.length_take]; omega), List.getElem?_eq_none (by omega)]

theorem run_eql_func_nil (f : Fn) (a b : Array Value) (w : World) : (binOp .eql 56 (.func f a b) .nilFunc).run Try.prog w = .ok (.bool false) w := by
  have h : ∀ d : Nat, (Op.equalIn (d + 1) 56 (.func f a b) .nilFunc).run Try.prog w = .ok false w := fun d => by
    simp [Op.equalIn, run_underlying Try.underlying56]
  simp only [binOp]
  simp [Op.equal, Op.maxDepth, h 9999]
/-- what a round leaves: all cells but those of S -/
def KeptBut (S : Nat → Prop) (W W' : World) : Prop := ∀ (k e : Nat) (vs : List Value), Row W k e vs → ¬ S k → Row W' k e vs

theorem all_c (p : Option Addr) (w : World) : Calls Try.prog 24 #[.pointer p] w fun e w' => e = .returned (.func (.func 27) #[] #[.pointer (some ⟨w.heap.size, 0, none⟩)]) ∧ w' = w.alloc (.cells #[.pointer p] 35) := by
  go_enter Try.func24, Try.ntmps24
  go_wp2
  go_ret
  exact ⟨rfl, rfl⟩

set_option maxHeartbeats 4000000 in
set_option maxRecDepth 100000 in
theorem all_stops (N B b g nn : Nat) (S : Nat → Prop) (xs : List Int) (w : World) (hc : w.cell? ⟨B, 0, none⟩ = some (.pointer (some ⟨b, 0, none⟩))) (hR : Ring w 64 3 b g nn (xs.map (Value.int .i64))) (hnn : nn ≤ 100) (hS : ∀ k, S k → k < w.heap.size) :
    SeqStopsK Fence.wide (N + 1) Try.prog 27 #[.pointer (some ⟨B, 0, none⟩)] (fun x : Int => #[.int .i64 x]) (KeptBut S) (· = xs) (· <+: xs) xs.length w := by
  intro l J Jx W hW hJ hJx hY h0
  have hcW := (hW.cell (p := ⟨B, 0, none⟩) (cell_lt hc)).trans hc
  obtain ⟨f, vs, hA⟩ := hR.below hW
  have hf := hA.first
  have hfew := hA.few
  have HL := Lib.hid hA.list
  have HA := Lib.hid hA
  have c0 : W.cell? ⟨b, 0, none⟩ = some (.slice (some ⟨g, 0, none⟩) nn nn) := by rw [hA.obj.cell]; rfl
  have c1 : W.cell? ⟨b, 1, none⟩ = some (.int .i64 f) := by rw [hA.obj.cell]; rfl
  have c2 : W.cell? ⟨b, 2, none⟩ = some (.int .i64 ((xs.map (Value.int .i64)).length : Nat)) := by rw [hA.obj.cell]; rfl
  obtain ⟨q, hq⟩ : ∃ q, xs.map (Value.int .i64) = q := ⟨_, rfl⟩
  rw [hq] at c2 hfew HL HA
  obtain ⟨m, hm⟩ : ∃ m, q.length = m := ⟨_, rfl⟩
  rw [hm] at c2 hfew HL
  have HM := Lib.hid hm
  have HQ := Lib.hid hq
  have HXL : Hid (xs.length = m) := Lib.hid (by rw [← hm, ← hq, List.length_map])
  have hmk := fun w => RI.run_make_ m (by omega) w
  obtain ⟨A1, hs1, hA1⟩ := cut_int (some ⟨g, 0, none⟩) nn nn f (by omega) (Nat.le_refl _)
  have HA1 := Lib.hid hA1
  have HY := Lib.hid hY
  have HJ := Lib.hid hJ
  have HW := Lib.hid hW
  have HJ0 := Lib.hid h0
  clear hA hq hm hY hJ hW h0 hA1 hR
  show CallsIn Fence.wide (N + 1) Try.prog 27 #[.func (.yield l) #[] #[], .pointer (some ⟨B, 0, none⟩)] W _
  refine callsIn_of_wp Try.func27 rfl trivial ?_ rfl
  simp only [Try.ntmps27, List.size_toArray, List.length_cons, List.length_nil, Nat.reduceAdd, Nat.reduceSub, Array.replicate_succ, Array.replicate_zero, List.push_toArray, List.append_toArray, List.nil_append, List.cons_append]
  have hsz : (Try.prog.info? 3).map (·.size) = some 1 := by kernel_rfl
  obtain ⟨cs1, hcs1⟩ : ∃ cs1, (vs.drop f).take m = cs1 := ⟨_, rfl⟩
  obtain ⟨r, hr⟩ : ∃ r, cs1.length = r := ⟨_, rfl⟩
  have hvl := HA.out.len
  have hrm : r = min (nn - f) m := by rw [← hr, ← hcs1, List.length_take, List.length_drop, hvl]; omega
  have HRM := Lib.hid hrm
  have hrle : r ≤ m := by omega
  obtain ⟨cs2, hcs2⟩ : ∃ cs2, vs.take (m - r) = cs2 := ⟨_, rfl⟩
  have hr2 : cs2.length = m - r := by rw [← hcs2, List.length_take, hvl]; omega
  have HCS : Hid (cs1 ++ cs2 = q) := Lib.hid (by have := HL.out; rw [← hrm, hcs1, hcs2] at this; exact this)
  have hone : ∀ v ∈ cs1 ++ cs2, v.oneCell' = true := fun v hv => by
    rw [HCS.out, ← HQ.out] at hv
    obtain ⟨y, _, rfl⟩ := List.mem_map.1 hv
    rfl
  have HONE1 : Hid (∀ v ∈ cs1, v.oneCell' = true) := Lib.hid (fun v hv => hone v (List.mem_append_left _ hv))
  have HONE2 : Hid (∀ v ∈ cs2, v.oneCell' = true) := Lib.hid (fun v hv => hone v (List.mem_append_right _ hv))
  have HP1 : Hid (∀ w4, Below W.heap.size W w4 → 0 < cs1.length → ∃ ad, A1 = some ad ∧ ∀ j v, cs1[j]? = some v → w4.cell? (ad.add j) = some v) := Lib.hid (by
    intro w4 hb h0
    refine ⟨⟨g, f, none⟩, ?_, fun j v hj => ?_⟩
    · rw [HA1.out (by omega)]
      show some ((⟨g, 0, none⟩ : Addr).add f) = _
      rw [add_zero]
    · rw [← hcs1, List.getElem?_take] at hj
      split at hj
      · rw [List.getElem?_drop] at hj
        have e : (⟨g, f, none⟩ : Addr).add j = ⟨g, f + j, none⟩ := by rw [← add_zero g f, addr_add, add_zero]
        rw [e, hb.cell (p := ⟨g, f + j, none⟩) HA.out.room.lt, HA.out.room.cell]
        exact hj
      · cases hj)
  have HP2 : Hid (∀ w4, Below W.heap.size W w4 → 0 < cs2.length → ∃ ad, (some ⟨g, 0, none⟩ : Option Addr) = some ad ∧ ∀ j v, cs2[j]? = some v → w4.cell? (ad.add j) = some v) := Lib.hid (by
    intro w4 hb h0
    refine ⟨_, rfl, fun j v hj => ?_⟩
    rw [← hcs2, List.getElem?_take] at hj
    split at hj
    · rw [add_zero, hb.cell (p := ⟨g, j, none⟩) HA.out.room.lt, HA.out.room.cell]
      exact hj
    · cases hj)
  obtain ⟨A2, hs2, hA2⟩ := cut_int (some ⟨W.heap.size, 0, none⟩) m m r hrle (Nat.le_refl _)
  have HA2 := Lib.hid hA2
  have HS1 : Hid (splice (List.replicate m (Value.int .i64 0)) 0 cs1 = cs1 ++ List.replicate (m - r) (Value.int .i64 0)) := Lib.hid (by
    unfold splice
    rw [List.take_zero, List.nil_append, Nat.zero_add, hr, List.drop_replicate])
  have HS2 : Hid (splice (cs1 ++ List.replicate (m - r) (Value.int .i64 0)) r cs2 = q) := Lib.hid (by
    unfold splice
    rw [← hr, List.take_left, hr2, hr, List.drop_of_length_le (by rw [List.length_append, List.length_replicate]; omega), List.append_nil]
    exact HCS.out)
  have hg0 : g < W.heap.size := HA.out.room.lt
  have hb0 : b < W.heap.size := HA.out.obj.lt
  have hB0 : B < W.heap.size := cell_lt hcW
  clear hcs1 hcs2 hA2 hrm hvl hone hc
  gi_wp2
  have hB1 : Below W.heap.size W (W.alloc (.cells (List.replicate m (Value.int .i64 0)).toArray 3)) := (Below.refl _ W).alloc (Nat.le_refl _) _
  have hR1 : Row (W.alloc (.cells (List.replicate m (Value.int .i64 0)).toArray 3)) W.heap.size 3 (List.replicate m (Value.int .i64 0)) := Row.new W _ _
  try rw [List.toArray_replicate] at hB1 hR1
  generalize W.alloc (.cells (Array.replicate m (Value.int .i64 0)) 3) = w1 at *
  have cB := (hB1.cell (p := ⟨B, 0, none⟩) hB0).trans hcW
  have d0 := (hB1.cell (p := ⟨b, 0, none⟩) hb0).trans c0
  have d1 := (hB1.cell (p := ⟨b, 1, none⟩) hb0).trans c1
  have HB1 := Lib.hid hB1
  have HR1 := Lib.hid hR1
  have f0 : (0 : Int) ≤ (f : Int) := by omega
  have f1 : (f : Int) ≤ (nn : Int) := by omega
  have cW := hcW
  have cW0 := c0
  have cW1 := c1
  have HN1 : Hid (cs1.length = Nat.min (nn - f) m) := Lib.hid (by rw [hr]; exact HRM.out)
  clear hB1 hR1 c2
  refine wpIn_wide.2 ?_
  go_region_held3 (fun w' => w'.cell? ⟨B, 0, none⟩ = some (.pointer (some ⟨b, 0, none⟩)) ∧ w'.cell? ⟨b, 0, none⟩ = some (.slice (some ⟨g, 0, none⟩) nn nn) ∧ w'.cell? ⟨b, 1, none⟩ = some (.int .i64 f))
    (first | go_keep | exact ⟨(hb4.cell (p := ⟨B, 0, none⟩) hB0).trans cW, (hb4.cell (p := ⟨b, 0, none⟩) hb0).trans cW0, (hb4.cell (p := ⟨b, 1, none⟩) hb0).trans cW1⟩)
    ((refine step_copy_splice rfl (.tmp 14) (.tmp 23) 22 22 rfl 3 Try.underlying22 hsz _ _ _ _ _ _ (by rfl) (by rfl) W.heap.size 0 (List.replicate m (Value.int .i64 0)) 3 HR1.out cs1 HN1.out (fun h => ⟨rfl, HP1.out _ HB1.out.drew h⟩) (by rw [List.length_replicate]; omega) HONE1.out W.heap.size W HB1.out.drew (Nat.le_refl _) ?_; intro w4 hg4 hb4))
  have hR4 : Row w4 W.heap.size 3 (cs1 ++ List.replicate (m - r) (Value.int .i64 0)) := by rw [← HS1.out]; exact hg4.out
  have HB4 := Lib.hid hb4
  have HR4 := Lib.hid hR4
  have dB := (hb4.cell (p := ⟨B, 0, none⟩) hB0).trans cW
  have d40 := (hb4.cell (p := ⟨b, 0, none⟩) hb0).trans cW0
  have HN2 : Hid (cs2.length = Nat.min nn (m - r)) := Lib.hid (by rw [hr2]; show m - r = min nn (m - r); omega)
  have HD2 : Hid (0 < cs2.length → A2 = some ⟨W.heap.size, r, none⟩) := Lib.hid (fun h => by
    rw [HA2.out (by omega)]
    show some ((⟨W.heap.size, 0, none⟩ : Addr).add r) = _
    rw [add_zero])
  have r0 : (0 : Int) ≤ (r : Int) := by omega
  have r1 : (r : Int) ≤ (m : Int) := by omega
  clear hg4 hb4 hR4 c0 c1 hcW cB d0 d1 f0 f1
  gi_wp2
  refine wpIn_wide.2 ?_
  go_region_held3 (fun w' => w'.cell? ⟨B, 0, none⟩ = some (.pointer (some ⟨b, 0, none⟩)) ∧ w'.cell? ⟨b, 0, none⟩ = some (.slice (some ⟨g, 0, none⟩) nn nn))
    (first | go_keep | exact ⟨(hb5.cell (p := ⟨B, 0, none⟩) hB0).trans cW, (hb5.cell (p := ⟨b, 0, none⟩) hb0).trans cW0⟩)
    ((refine step_copy_splice rfl (.tmp 27) (.tmp 31) 22 22 rfl 3 Try.underlying22 hsz _ _ _ _ _ _ (by rfl) (by rfl) W.heap.size r (cs1 ++ List.replicate (m - r) (Value.int .i64 0)) 3 HR4.out cs2 HN2.out (fun h => ⟨HD2.out h, HP2.out _ HB4.out.drew h⟩) (by rw [List.length_append, List.length_replicate]; omega) HONE2.out W.heap.size W HB4.out.drew (Nat.le_refl _) ?_; intro w5 hg5 hb5))
  have hR5 : Row w5 W.heap.size 3 q := by rw [← HS2.out]; exact hg5.out
  have HB5 := Lib.hid hb5
  have HR5 := Lib.hid hR5
  have HJ5 : Hid (J [] w5) := Lib.hid (HJ.out [] W w5 none HJ0.out ⟨hb5.os, hb5.tape, hb5.output, hb5.size, fun k hk _ => hb5.block k hk⟩ (fun r e => by cases e))
  clear hg5 hb5 hR5
  gi_wp2
  generalize goInt (cs1.length : Int) = gi1 at *
  generalize goInt (cs2.length : Int) = gi2 at *
  gi_loopw [35] (fun i wr => ∃ k : Nat, k ≤ m ∧ i = .int .i64 k ∧ J (xs.take k) wr ∧ Row wr W.heap.size 3 q) (fun i _ => m - (intOf i).toNat)
  case atStart => exact ⟨0, by omega, rfl, HJ5.out, HR5.out⟩
  case round =>
    obtain ⟨k, hk, rfl, hJk, hRk⟩ := hrel
    by_cases hlt : k < m
    · obtain ⟨x, hx⟩ : ∃ x, xs[k]? = some x := ⟨_, List.getElem?_eq_getElem (by rw [HXL.out]; exact hlt)⟩
      have cx : wr.cell? ⟨W.heap.size, k, none⟩ = some (.int .i64 x) := by rw [hRk.cell, ← HQ.out, List.getElem?_map, hx]; rfl
      have htk : xs.take (k + 1) = xs.take k ++ [x] := by rw [List.take_add_one, hx]; rfl
      obtain ⟨fn, tmps, assign, body, hy, hR⟩ := HY.out (xs.take k) x wr hJk (by rw [List.length_take, HXL.out]; omega)
      have HRk := Lib.hid hRk
      have HTK := Lib.hid htk
      have HX := Lib.hid hx
      have HRR := Lib.hid hR
      have hkm : (k : Int) < (m : Int) := by omega
      have hk0 : (0 : Int) ≤ (k : Int) := by omega
      clear hJk hRk hx htk hR
      gi_wp2
      refine HRR.out.mono ?_
      rintro e W3 (⟨rfl, hJ3, hk3⟩ | ⟨rfl, hJx3⟩)
      · have HJ3 : Hid (J (xs.take (k + 1)) W3) := Lib.hid (by rw [HTK.out]; exact hJ3)
        have HR3 : Hid (Row W3 W.heap.size 3 q) := Lib.hid (hk3 _ _ _ HRk.out (fun hs => by have := hS _ hs; have := HW.out.size; omega))
        clear hJ3 hk3
        gi_wp2
        go_roundw
        case rel => exact ⟨k + 1, by omega, by go_num, HJ3.out, HR3.out⟩
        case measure => simp [intOf]; omega
      · have HJx : Hid (Jx (xs.take k ++ [x]) W3) := Lib.hid hJx3
        have HPR : Hid (xs.take k ++ [x] <+: xs) := Lib.hid (by rw [← HTK.out]; exact List.take_prefix _ _)
        clear hJx3
        gi_wp2
        refine bodyPost_ret (results_none rfl _ _ _) rfl ?_
        exact ⟨⟨_, rfl⟩, .inr ⟨_, HPR.out, HJx.out⟩⟩
    · have HJm : Hid (J xs wr) := Lib.hid (by rw [List.take_of_length_le (by rw [HXL.out]; omega)] at hJk; exact hJk)
      have hkm : ¬ (k : Int) < (m : Int) := by omega
      clear hJk hRk
      gi_wp2
      go_end0
      exact ⟨⟨_, rfl⟩, .inl HJm.out⟩
end Go.Proofs.Ytkoepaagdaconaa
