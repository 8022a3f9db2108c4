/-
  lots.Next, Used, Left of a schedule in memory, and of none.
-/
import Derived.Test.YtplejggfeehbcaaLotE
namespace Go.Proofs.Ytplejggfeehbcaa
open Go.RowKit
set_option linter.unusedSimpArgs false

def lotAt (L : List Lot) (u : Nat) : Lot := (L[u]?).getD (0, [])
def nextV (L : List Lot) (u : Nat) (n : Int) : Int := if n < 1 then -1 else if n = 1 then 0 else chooseV (lotAt L u).1 (lotAt L u).2 n
def nextU (L : List Lot) (u : Nat) (n : Int) : Nat := if n ≤ 1 then u else if u < L.length then u + 1 else u

set_option maxHeartbeats 2000000 in
theorem next_nil (n : Int) (w : World) : Calls Try.prog 64 #[.pointer none, .int .i64 n] w fun e w' => e = .returned (.int .i64 (if n < 1 then -1 else 0)) ∧ w = w' := by
  by_cases h1 : n < 1
  · rw [if_pos h1]
    go_enter Try.func64, Try.ntmps64
    go_wp2
    go_ret
    exact ⟨rfl, rfl⟩
  · rw [if_neg h1]
    by_cases h2 : n = 1
    · subst h2
      go_enter Try.func64, Try.ntmps64
      go_wp2
      go_ret
      exact ⟨rfl, rfl⟩
    · have e2 : (n == 1) = false := beq_eq_false_iff_ne.2 h2
      go_enter Try.func64, Try.ntmps64
      go_wp2
      go_ret
      exact ⟨rfl, rfl⟩

set_option maxHeartbeats 2000000 in
theorem next_c (b : Nat) (L : List Lot) (u : Nat) (n : Int) (w : World) (h : Sched w b L u) (hn : n ≤ 9223372036854775807) :
    Calls Try.prog 64 #[.pointer (some ⟨b, 0, none⟩), .int .i64 n] w fun e w' => e = .returned (.int .i64 (nextV L u n)) ∧ Sched w' b L (nextU L u n) ∧ w.grownBy w' (some b) := by
  by_cases h1 : n < 1
  · have HV : Hid (nextV L u n = -1) := Lib.hid (if_pos h1)
    have HU : Hid (nextU L u n = u) := Lib.hid (if_pos (by omega))
    have HH := Lib.hid h
    clear h
    go_enter Try.func64, Try.ntmps64
    go_wp2
    go_ret
    exact ⟨by rw [HV.out]; rfl, by rw [HU.out]; exact HH.out, below_grown (Below.refl _ _) _⟩
  · by_cases h2 : n = 1
    · have HV : Hid (nextV L u n = 0) := Lib.hid ((if_neg h1).trans (if_pos h2))
      have HU : Hid (nextU L u n = u) := Lib.hid (if_pos (by omega))
      have HH := Lib.hid h
      subst h2
      clear h
      go_enter Try.func64, Try.ntmps64
      go_wp2
      go_ret
      exact ⟨by rw [HV.out]; rfl, by rw [HU.out]; exact HH.out, below_grown (Below.refl _ _) _⟩
    · have e2 : (n == 1) = false := beq_eq_false_iff_ne.2 h2
      have HV : Hid (nextV L u n = chooseV (lotAt L u).1 (lotAt L u).2 n) := Lib.hid ((if_neg h1).trans (if_neg h2))
      obtain ⟨bo, bm, M, c, rs, h⟩ := h
      have c2 : w.cell? ⟨b, 2, none⟩ = some (.func (Fn.func 101) #[] #[.pointer (some ⟨bo, 0, none⟩), .pointer (some ⟨bm, 0, none⟩)]) := by rw [h.obj.cell]; rfl
      by_cases hu : u < L.length
      · obtain ⟨l, hl⟩ : ∃ l, L[u]? = some l := ⟨_, List.getElem?_eq_getElem hu⟩
        have HU : Hid (nextU L u n = u + 1) := Lib.hid ((if_neg (by omega)).trans (if_pos hu))
        have hla : lotAt L u = l := by unfold lotAt; rw [hl]; rfl
        rw [hla] at HV
        have C := Lib.hid (hand_c b bo bm c u M rs L l w h hl)
        clear h hl hla hu
        go_enter Try.func64, Try.ntmps64
        go_wp2_with (first
          | (go_at_call 101; refine C.out.mono ?_; rintro e w1 ⟨A, k, c', rfl, hf, hs, hg⟩; have HS := Lib.hid hs; have HG := Lib.hid hg; have CC := Lib.hid (choose_c l.1 A k c' l.2 n w1 hf.1 hf.2.1 hf.2.2.1 hf.2.2.2.1 hf.2.2.2.2 hn); clear hf hs hg)
          | (go_at_call 56; refine CC.out.mono ?_; rintro e w2 ⟨rfl, hb⟩; have HB := Lib.hid hb; clear hb))
        go_ret
        refine ⟨by rw [HV.out]; rfl, ?_, grownBy.tr HG.out (below_grown HB.out _)⟩
        rw [HU.out]
        exact ⟨bo, bm, M, c, rs, HS.out.below HB.out⟩
      · have hul : u = L.length := by have := h.used; omega
        have HU : Hid (nextU L u n = u) := Lib.hid ((if_neg (by omega)).trans (if_neg hu))
        have hla : lotAt L u = (0, []) := by unfold lotAt; rw [List.getElem?_eq_none (by omega)]; rfl
        rw [hla] at HV
        have C := Lib.hid (hand0_c b bo bm c u M rs L w h hul)
        have CC := Lib.hid (fun w => choose_c 0 none 0 0 [] n w ⟨rfl, by omega, (by intro x hx; cases hx), fun h0 => absurd h0 (by omega)⟩ (by omega) (fun _ => ⟨rfl, rfl⟩) (by omega) (by omega) hn)
        clear h hla hul hu
        go_enter Try.func64, Try.ntmps64
        go_wp2_with (first
          | (go_at_call 101; refine C.out.mono ?_; rintro e w1 ⟨rfl, hs, hg⟩; have HS := Lib.hid hs; have HG := Lib.hid hg; clear hs hg)
          | (go_at_call 56; refine (CC.out _).mono ?_; rintro e w2 ⟨rfl, hb⟩; have HB := Lib.hid hb; clear hb))
        go_ret
        refine ⟨by rw [HV.out]; rfl, ?_, grownBy.tr HG.out (below_grown HB.out _)⟩
        rw [HU.out]
        exact ⟨bo, bm, M, c, rs, HS.out.below HB.out⟩

theorem used_nil (w : World) : Calls Try.prog 66 #[.pointer none] w fun e w' => e = .returned (.int .i64 0) ∧ w = w' := by
  go_enter Try.func66, Try.ntmps66
  go_wp2
  go_ret
  exact ⟨rfl, rfl⟩
theorem left_nil (w : World) : Calls Try.prog 67 #[.pointer none] w fun e w' => e = .returned (.int .i64 0) ∧ w = w' := by
  go_enter Try.func67, Try.ntmps67
  go_wp2
  go_ret
  exact ⟨rfl, rfl⟩
theorem used_c (b : Nat) (L : List Lot) (u : Nat) (w : World) (h : Sched w b L u) : Calls Try.prog 66 #[.pointer (some ⟨b, 0, none⟩)] w fun e w' => e = .returned (.int .i64 u) ∧ w = w' := by
  obtain ⟨bo, bm, M, c, rs, h⟩ := h
  have c1 : w.cell? ⟨b, 1, none⟩ = some (.int .i64 u) := by rw [h.obj.cell]; rfl
  clear h
  go_enter Try.func66, Try.ntmps66
  go_wp2
  go_ret
  exact ⟨rfl, rfl⟩
theorem left_c (b : Nat) (L : List Lot) (u : Nat) (w : World) (h : Sched w b L u) : Calls Try.prog 67 #[.pointer (some ⟨b, 0, none⟩)] w fun e w' => e = .returned (.int .i64 ((L.length : Int) - u)) ∧ Drw w w' := by
  obtain ⟨bo, bm, M, c, rs, h⟩ := h
  have c0 : w.cell? ⟨b, 0, none⟩ = some (.int .i64 (L.length : Nat)) := by rw [h.obj.cell]; rfl
  have c1 : w.cell? ⟨b, 1, none⟩ = some (.int .i64 u) := by rw [h.obj.cell]; rfl
  have hu := h.used
  have hs := h.small
  clear h
  generalize L.length = n at *
  go_enter Try.func67, Try.ntmps67
  go_wp2_with fail
  go_quiet (fail)
  go_wp2
  go_ret
  exact ⟨rfl, ⟨_, rfl⟩⟩
end Go.Proofs.Ytplejggfeehbcaa
