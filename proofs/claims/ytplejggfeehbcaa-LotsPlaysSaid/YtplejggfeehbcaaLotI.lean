/-
  lots.New once more: all of the new schedule lies in new blocks.
-/
import Derived.Test.YtplejggfeehbcaaLotF
namespace Go.Proofs.Ytplejggfeehbcaa
open Go.RowKit
set_option linter.unusedSimpArgs false

/-- all of a schedule lies in blocks from lo on, below hi -/
structure Within (lo hi b bo bm : Nat) (M : Option Addr) (rs : List Raw) : Prop where
  b : lo ≤ b ∧ b < hi
  bo : lo ≤ bo ∧ bo < hi
  bm : lo ≤ bm ∧ bm < hi
  m : ∀ ad, M = some ad → lo ≤ ad.block ∧ ad.block < hi
  w : ∀ (i : Nat) (r : Raw), rs[i]? = some r → ∀ ad, r.A = some ad → lo ≤ ad.block ∧ ad.block < hi
def SchedIn (w : World) (lo hi b : Nat) (L : List Lot) (u : Nat) : Prop :=
  ∃ (bo bm : Nat) (M : Option Addr) (c : Nat) (rs : List Raw), SchedAt w b bo bm M c rs L u ∧ Within lo hi b bo bm M rs
theorem SchedIn.sched {w : World} {lo hi b u : Nat} {L : List Lot} (h : SchedIn w lo hi b L u) : Sched w b L u := by
  obtain ⟨bo, bm, M, c, rs, h, _⟩ := h
  exact ⟨bo, bm, M, c, rs, h⟩
theorem SchedIn.own {w : World} {lo hi b u : Nat} {L : List Lot} (h : SchedIn w lo hi b L u) : lo ≤ b ∧ b < hi := by
  obtain ⟨bo, bm, M, c, rs, _, h⟩ := h
  exact h.b

/-- from lo on, below hi, w' is as w was -/
def Amid (lo hi : Nat) (w w' : World) : Prop := ∀ k, lo ≤ k → k < hi → w'.heap[k]? = w.heap[k]?
namespace Amid
variable {lo hi : Nat} {w w' w'' : World}
theorem refl (lo hi : Nat) (w : World) : Amid lo hi w w := fun _ _ _ => rfl
theorem trans (h : Amid lo hi w w') (h' : Amid lo hi w' w'') : Amid lo hi w w'' := fun k a b => (h' k a b).trans (h k a b)
theorem set (p : Addr) (v : Value) (hp : p.block < lo ∨ hi ≤ p.block) : Amid lo hi w (w.setCell p v) := fun k a b => Below.heap_setCell w p v k (by omega)
theorem below (h : Below w.heap.size w w') (hh : hi ≤ w.heap.size) : Amid lo hi w w' := fun k _ b => h.block k (by omega)
theorem grown {p : Nat} (h : w.grownBy w' (some p)) (hh : hi ≤ w.heap.size) (hp : p < lo ∨ hi ≤ p) : Amid lo hi w w' := fun k _ b => h.block k (by omega) (by intro e; cases e; omega)
theorem row (h : Amid lo hi w w') {x e : Nat} {vs : List Value} (hr : Row w x e vs) (hx : lo ≤ x ∧ x < hi) : Row w' x e vs := (h x hx.1 hx.2).trans hr
theorem cell (h : Amid lo hi w w') {p : Addr} {v : Value} (hc : w.cell? p = some v) (hp : lo ≤ p.block ∧ p.block < hi) : w'.cell? p = some v :=
  (World.cell?_of_block (w := w) (h p.block hp.1 hp.2)).trans hc
theorem fs (h : Amid lo hi w w') {A : Option Addr} {n : Nat} {xs : List Nat} (hf : Fs w A n xs) (hA : ∀ ad, A = some ad → lo ≤ ad.block ∧ ad.block < hi) : Fs w' A n xs :=
  ⟨hf.len, hf.small, hf.bits, fun hn => by
    obtain ⟨ad, e, hc⟩ := hf.at_ hn
    exact ⟨ad, e, fun j hj => h.cell (hc j hj) (by rw [add_block]; exact hA ad e)⟩⟩
theorem lts (h : Amid lo hi w w') {Q : Nat → Prop} {rs : List Raw} {L : List Lot} (hl : Lts w Q rs L) (hB : ∀ (i : Nat) (r : Raw), rs[i]? = some r → ∀ ad, r.A = some ad → lo ≤ ad.block ∧ ad.block < hi) : Lts w' Q rs L :=
  ⟨hl.len, hl.p, fun i r l h1 h2 => by
    obtain ⟨a, b, c, d, e⟩ := hl.ws i r l h1 h2
    exact ⟨h.fs a (hB i r h1), b, c, d, e⟩⟩
theorem cs (h : Amid lo hi w w') {M : Option Addr} {vs : List Value} (hc : Cs w M vs) (hM : ∀ ad, M = some ad → lo ≤ ad.block ∧ ad.block < hi) : Cs w' M vs := fun h0 => by
  obtain ⟨ad, e, hc⟩ := hc h0
  refine ⟨ad, e, fun j hj => ?_⟩
  have h1 := hc j hj
  rw [List.getElem?_eq_getElem hj] at h1 ⊢
  exact h.cell h1 (by rw [add_block]; exact hM ad e)
end Amid
theorem SchedIn.amid {w w' : World} {lo hi b u : Nat} {L : List Lot} (h : SchedIn w lo hi b L u) (ha : Amid lo hi w w') : SchedIn w' lo hi b L u := by
  obtain ⟨bo, bm, M, c, rs, h, k⟩ := h
  exact ⟨bo, bm, M, c, rs, ⟨ha.row h.obj k.b, ha.row h.out k.bo, ha.row h.mine k.bm, ha.cs h.cells k.m, ha.lts h.lots k.w, h.far, h.no, h.nm, h.used, h.small⟩, k⟩

set_option maxHeartbeats 2000000 in
set_option maxRecDepth 100000 in
theorem new_in (M : Option Addr) (n c : Nat) (rs : List Raw) (L : List Lot) (w : World) (h : Cs w M (rawCells rs)) (hL : Lts w (fun _ => True) rs L) (hl : L.length = n) (hM : M = none → n = 0 ∧ c = 0) (hn : n * 32 ≤ 140737488351232) :
    Calls Try.prog 63 #[.slice M n c] w fun e w' => ∃ b, e = .returned (.pointer (some ⟨b, 0, none⟩)) ∧ SchedIn w' w.heap.size w'.heap.size b L 0 ∧ Below w.heap.size w w' := by
  have C := Lib.hid (clone_lots h (hL.len.trans hl) hM hn)
  have HLL := Lib.hid hL
  have HN := Lib.hid hl
  have HRL := Lib.hid (hL.len.trans hl)
  have hn2 : n ≤ 4398046511104 := by omega
  clear h hM hL hl
  go_enter Try.func63, Try.ntmps63
  go_wp2_with (go_at_call 100; refine C.out.mono ?_; rintro e w1 ⟨A, cap, G, rest, rfl, hA, hb⟩; have HA := Lib.hid hA; have HB := Lib.hid hb; clear hA hb)
  have HR2 := Lib.hid (Row.new w1 56 [.slice A n cap])
  go_loopw [10] (fun i wr => ∃ (j : Nat) (rs1 : List Raw), j ≤ n ∧ i = .int .i64 j ∧ rs1.length = j ∧ (A = some ⟨G, 0, none⟩ → Row wr G 52 (rawCells (rs1 ++ rs.drop j) ++ rest)) ∧ Lts wr (fun b => w.heap.size ≤ b ∧ b < wr.heap.size ∧ b ≠ G ∧ b ≠ w1.heap.size) rs1 (L.take j) ∧ Row wr w1.heap.size 56 [.slice A n cap] ∧ Below w.heap.size w wr ∧ w1.heap.size < wr.heap.size) (fun i _ => n - (intOf i).toNat)
  case atStart =>
    refine ⟨0, [], by omega, rfl, rfl, ?_, Lts.nil _ _, HR2.out, HB.out.alloc HB.out.size _, ?_⟩
    · intro e
      rcases HA.out with ⟨e1, _⟩ | ⟨_, _, hr⟩
      · rw [e1] at e; cases e
      · exact hr.alloc _
    · show w1.heap.size < (w1.heap.push _).size
      rw [Array.size_push]; omega
  case round =>
    obtain ⟨j, rs1, hj, rfl, hrl, hRG, hLt, hRm, hB, hsz⟩ := hrel
    by_cases hlt : j < n
    · have hAs : A = some ⟨G, 0, none⟩ ∧ w.heap.size ≤ G := by
        rcases HA.out with ⟨_, e2⟩ | ⟨e1, e2, _⟩
        · omega
        · exact ⟨e1, e2⟩
      obtain ⟨hAs, hGb⟩ := hAs
      subst hAs
      have hRG := hRG rfl
      obtain ⟨r, hr⟩ : ∃ r, rs[j]? = some r := ⟨_, List.getElem?_eq_getElem (by rw [HRL.out]; exact hlt)⟩
      obtain ⟨l, hl⟩ : ∃ l, L[j]? = some l := ⟨_, List.getElem?_eq_getElem (by rw [HN.out]; exact hlt)⟩
      have hdrop : rs.drop j = r :: rs.drop (j + 1) := by
        have := (List.getElem?_eq_some_iff.1 hr)
        obtain ⟨h1, h2⟩ := this
        rw [List.drop_eq_getElem_cons h1, h2]
      rw [hdrop] at hRG
      have hP := HLL.out.p j r l hr hl
      obtain ⟨hFr, hkc, hAk, hkk, _⟩ := HLL.out.ws j r l hr hl
      have cm : wr.cell? ⟨w1.heap.size, 0, none⟩ = some (.slice (some ⟨G, 0, none⟩) n cap) := by rw [hRm.cell]; rfl
      have cs : wr.cell? ⟨G, j * 2 + 1, none⟩ = some (.slice r.A r.k r.c) := by
        rw [hRG.cell, List.getElem?_append_left (by rw [rawCells_len, List.length_append, List.length_cons]; omega)]
        have := rawCells_s (rs1 ++ r :: rs.drop (j + 1)) j r (by rw [List.getElem?_append_right (by omega), hrl, Nat.sub_self]; rfl)
        rw [Nat.mul_comm] at this
        exact this
      have fs := hRG.frozen (j * 2 + 1)
      have hG : G < wr.heap.size := hRG.lt
      have HGN : Hid (G < w1.heap.size) := Lib.hid (by
        rcases HA.out with ⟨e1, _⟩ | ⟨_, _, hr0⟩
        · cases e1
        · exact hr0.lt)
      have HRG := Lib.hid hRG
      have HLt := Lib.hid hLt
      have HRm := Lib.hid hRm
      have HBr := Lib.hid hB
      have HP := Lib.hid hP
      have HFr := Lib.hid (hFr.below hB)
      have HRL1 := Lib.hid hrl
      have CC := Lib.hid (clone_fs (w := wr.drew) (hFr.below hB.drew) hAk hkk)
      clear hRG hLt hRm hB hP hFr hdrop hrl hAk
      go_wp2_with fail
      go_region_law (first | (go_simp; go_at_call 99; refine CC.out.mono ?_; rintro e w4 ⟨A3, c3, rfl, hc3⟩; have HC3 := Lib.hid hc3; have hb4 : Below wr.heap.size wr w4 := Below.trans (Below.refl _ wr).drew hc3.2.2.2.2; have cm4 := (hb4.cell (p := ⟨w1.heap.size, 0, none⟩) hsz).trans cm; have cs4 := (hb4.cell (p := ⟨G, j * 2 + 1, none⟩) hG).trans cs; have fs4 := (hb4.frozen (p := ⟨G, j * 2 + 1, none⟩) hG).trans fs; have HB4 := Lib.hid hb4; clear hc3 hb4))
      all_goals (
        go_wp2
        go_roundw
        case rel =>
          obtain ⟨hF3, hkc3, hA3, hb3, hbl3⟩ := HC3.out
          have hLt4 := (HLt.out.below HB4.out)
          refine ⟨j + 1, rs1 ++ [⟨r.p, A3, r.k, c3⟩], by omega, by go_num, by rw [List.length_append, HRL1.out]; rfl, fun _ => ?_, ?_, ?_, ?_, ?_⟩
          · have h1 := (HRG.out.grown HB4.out).set (2 * rs1.length + 1) (Raw.sl ⟨r.p, A3, r.k, c3⟩)
            rw [rawCells_set rs1 (rs.drop (j + 1)) r ⟨r.p, A3, r.k, c3⟩ rfl] at h1
            rw [List.append_assoc, List.singleton_append]
            have e : 2 * rs1.length + 1 = j * 2 + 1 := by rw [HRL1.out]; omega
            rw [e] at h1
            exact h1
          · have e : L.take (j + 1) = L.take j ++ [l] := by rw [List.take_add_one, hl]; rfl
            rw [e]
            have h2 : Lts (w4.setCell ⟨G, j * 2 + 1, none⟩ (.slice A3 r.k c3)) (fun b => w.heap.size ≤ b ∧ b < w4.heap.size ∧ b ≠ G ∧ b ≠ w1.heap.size) rs1 (L.take j) :=
              (hLt4.weaken (fun k hk => ⟨hk.1, by have := HB4.out.size; have := hk.2.1; omega, hk.2.2⟩)).set_far _ _ (fun hk => hk.2.2.1 rfl)
            have e2 : (w4.setCell ⟨G, j * 2 + 1, none⟩ (.slice A3 r.k c3)).heap.size = w4.heap.size := by simp [World.setCell]
            rw [e2]
            refine h2.snoc _ l HP.out ⟨hF3.set_far _ _ (fun ad he => by have := (hb3 ad he).1; show ad.block ≠ G; have : wr.drew.heap.size = wr.heap.size := rfl; omega), hkc3, hA3, hkk, fun ad he => ?_⟩
            have := hb3 ad he
            have h6 : wr.drew.heap.size = wr.heap.size := rfl
            exact ⟨by have := HBr.out.size; omega, this.2, by omega, by omega⟩
          · exact (HRm.out.grown HB4.out).far (by show w1.heap.size ≠ G; have := HBr.out; have := HGN.out; omega) _
          · exact (HBr.out.trans (HB4.out.mono HBr.out.size)).setCell (p := ⟨G, j * 2 + 1, none⟩) hGb _
          · have := HB4.out.size
            simp only [World.setCell, Array.size_modify]
            omega
        case measure => simp [intOf]; omega)
    · have hjn : j = n := by omega
      have cm : wr.cell? ⟨w1.heap.size, 0, none⟩ = some (.slice A n cap) := by rw [hRm.cell]; rfl
      have HRG := Lib.hid hRG
      have HLt := Lib.hid hLt
      have HRm := Lib.hid hRm
      have HBr := Lib.hid hB
      have HRL1 := Lib.hid hrl
      clear hRG hLt hRm hB hrl hlt hj
      subst hjn
      go_wp2
      go_ret
      have hs1 : ∀ o : Obj, (wr.alloc o).heap.size = wr.heap.size + 1 := fun o => by show (wr.heap.push o).size = _; rw [Array.size_push]
      refine ⟨wr.heap.size, rfl, ?_, (HBr.out.alloc HBr.out.size _).alloc (by rw [hs1]; have := HBr.out.size; omega) _⟩
      have hLt : Lts wr (fun b => w.heap.size ≤ b ∧ b < wr.heap.size ∧ b ≠ G ∧ b ≠ w1.heap.size) rs1 L := by
        have := HLt.out
        rwa [List.take_of_length_le (by rw [HN.out]; omega)] at this
      have hdr : rs.drop j = [] := List.drop_of_length_le (by rw [HRL.out]; omega)
      have hs2 : ∀ o o' : Obj, ((wr.alloc o).alloc o').heap.size = wr.heap.size + 2 := fun o o' => by show ((wr.heap.push o).push o').size = _; rw [Array.size_push, Array.size_push]
      have hBs := HBr.out.size
      have hB1 := HB.out.size
      refine ⟨wr.heap.size + 1, w1.heap.size, A, cap, rs1, ⟨?_, ?_, ?_, ?_, ?_, ?_, by omega, by omega, by omega, by rw [HN.out]; omega⟩, ?_⟩
      · rw [HN.out]
        exact (Row.new wr _ [_, _, _]).alloc _
      · have := Row.new (wr.alloc (.cells #[.int .i64 j, .int .i64 0, .func (Fn.func 101) #[] #[.pointer (some ⟨wr.heap.size + 1, 0, none⟩), .pointer (some ⟨w1.heap.size, 0, none⟩)]] 106)) 57 [.pointer (some ⟨wr.heap.size, 0, none⟩)]
        rw [hs1] at this
        exact this
      · rw [HN.out]
        exact (HRm.out.alloc _).alloc _
      · intro h0
        rw [rawCells_len, HRL1.out] at h0
        rcases HA.out with ⟨_, e2⟩ | ⟨e1, _, _⟩
        · omega
        · refine ⟨_, e1, fun q hq => ?_⟩
          have hr := HRG.out e1
          rw [hdr, List.append_nil] at hr
          rw [add_zero, ((hr.alloc _).alloc _).cell, List.getElem?_append_left hq]
      · exact ((hLt.weaken (fun k hk => by omega)).below ((Below.refl _ _).alloc (Nat.le_refl _) _)).below ((Below.refl _ _).alloc (Nat.le_refl _) _)
      · intro ad he
        rcases HA.out with ⟨e1, _⟩ | ⟨e1, _, hr0⟩
        · rw [e1] at he; cases he
        · rw [e1] at he
          cases he
          have := (HRG.out e1).lt
          exact ⟨G, rfl, by omega⟩
      · rw [hs2]
        refine ⟨by omega, by omega, by omega, ?_, ?_⟩
        · intro ad he
          rcases HA.out with ⟨e1, _⟩ | ⟨e1, e2, _⟩
          · rw [e1] at he; cases he
          · have := (HRG.out e1).lt
            rw [e1] at he
            cases he
            exact ⟨e2, by show G < _; omega⟩
        · intro i r h1 ad he
          have hil := (List.getElem?_eq_some_iff.1 h1).1
          have h2 := (hLt.ws i r _ h1 (List.getElem?_eq_getElem (by rw [← hLt.len]; exact hil))).2.2.2.2 ad he
          omega

set_option maxHeartbeats 2000000 in
theorem next_in (lo hi b : Nat) (L : List Lot) (u : Nat) (n : Int) (w : World) (h : SchedIn w lo hi b L u) (hn : n ≤ 9223372036854775807) :
    Calls Try.prog 64 #[.pointer (some ⟨b, 0, none⟩), .int .i64 n] w fun e w' => e = .returned (.int .i64 (nextV L u n)) ∧ SchedIn w' lo hi b L (nextU L u n) ∧ w.grownBy w' (some b) := by
  by_cases h1 : n < 1
  · have HV : Hid (nextV L u n = -1) := Lib.hid (if_pos h1)
    have HU : Hid (nextU L u n = u) := Lib.hid (if_pos (by omega))
    have HH := Lib.hid h
    clear h
    go_enter Try.func64, Try.ntmps64
    go_wp2
    go_ret
    exact ⟨by rw [HV.out]; rfl, by rw [HU.out]; exact HH.out, below_grown (Below.refl _ _) _⟩
  · by_cases h2 : n = 1
    · have HV : Hid (nextV L u n = 0) := Lib.hid ((if_neg h1).trans (if_pos h2))
      have HU : Hid (nextU L u n = u) := Lib.hid (if_pos (by omega))
      have HH := Lib.hid h
      subst h2
      clear h
      go_enter Try.func64, Try.ntmps64
      go_wp2
      go_ret
      exact ⟨by rw [HV.out]; rfl, by rw [HU.out]; exact HH.out, below_grown (Below.refl _ _) _⟩
    · have e2 : (n == 1) = false := beq_eq_false_iff_ne.2 h2
      have HV : Hid (nextV L u n = chooseV (lotAt L u).1 (lotAt L u).2 n) := Lib.hid ((if_neg h1).trans (if_neg h2))
      obtain ⟨bo, bm, M, c, rs, h, hw⟩ := h
      have HW := Lib.hid hw
      clear hw
      have c2 : w.cell? ⟨b, 2, none⟩ = some (.func (Fn.func 101) #[] #[.pointer (some ⟨bo, 0, none⟩), .pointer (some ⟨bm, 0, none⟩)]) := by rw [h.obj.cell]; rfl
      by_cases hu : u < L.length
      · obtain ⟨l, hl⟩ : ∃ l, L[u]? = some l := ⟨_, List.getElem?_eq_getElem hu⟩
        have HU : Hid (nextU L u n = u + 1) := Lib.hid ((if_neg (by omega)).trans (if_pos hu))
        have hla : lotAt L u = l := by unfold lotAt; rw [hl]; rfl
        rw [hla] at HV
        have C := Lib.hid (hand_c b bo bm c u M rs L l w h hl)
        clear h hl hla hu
        go_enter Try.func64, Try.ntmps64
        go_wp2_with (first
          | (go_at_call 101; refine C.out.mono ?_; rintro e w1 ⟨A, k, c', rfl, hf, hs, hg⟩; have HS := Lib.hid hs; have HG := Lib.hid hg; have CC := Lib.hid (choose_c l.1 A k c' l.2 n w1 hf.1 hf.2.1 hf.2.2.1 hf.2.2.2.1 hf.2.2.2.2 hn); clear hf hs hg)
          | (go_at_call 56; refine CC.out.mono ?_; rintro e w2 ⟨rfl, hb⟩; have HB := Lib.hid hb; clear hb))
        go_ret
        refine ⟨by rw [HV.out]; rfl, ?_, grownBy.tr HG.out (below_grown HB.out _)⟩
        rw [HU.out]
        exact ⟨bo, bm, M, c, rs, HS.out.below HB.out, HW.out⟩
      · have hul : u = L.length := by have := h.used; omega
        have HU : Hid (nextU L u n = u) := Lib.hid ((if_neg (by omega)).trans (if_neg hu))
        have hla : lotAt L u = (0, []) := by unfold lotAt; rw [List.getElem?_eq_none (by omega)]; rfl
        rw [hla] at HV
        have C := Lib.hid (hand0_c b bo bm c u M rs L w h hul)
        have CC := Lib.hid (fun w => choose_c 0 none 0 0 [] n w ⟨rfl, by omega, (by intro x hx; cases hx), fun h0 => absurd h0 (by omega)⟩ (by omega) (fun _ => ⟨rfl, rfl⟩) (by omega) (by omega) hn)
        clear h hla hul hu
        go_enter Try.func64, Try.ntmps64
        go_wp2_with (first
          | (go_at_call 101; refine C.out.mono ?_; rintro e w1 ⟨rfl, hs, hg⟩; have HS := Lib.hid hs; have HG := Lib.hid hg; clear hs hg)
          | (go_at_call 56; refine (CC.out _).mono ?_; rintro e w2 ⟨rfl, hb⟩; have HB := Lib.hid hb; clear hb))
        go_ret
        refine ⟨by rw [HV.out]; rfl, ?_, grownBy.tr HG.out (below_grown HB.out _)⟩
        rw [HU.out]
        exact ⟨bo, bm, M, c, rs, HS.out.below HB.out, HW.out⟩
end Go.Proofs.Ytplejggfeehbcaa
