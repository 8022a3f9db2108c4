/-
  The document's Next.
-/
import Derived.Test.YtplejggfeehbcaaLotI
namespace Go.Proofs.Ytplejggfeehbcaa
open Go.RowKit
set_option linter.unusedSimpArgs false

set_option maxHeartbeats 4000000 in
set_option maxRecDepth 100000 in
theorem refNext_c (p : Nat) (M : Option Addr) (c : Nat) (rs : List Raw) (L : List Lot) (u : Nat) (n : Int) (w : World) (hr : Row w p 61 [.slice M L.length c, .int .i64 u]) (hC : Cs w M (rawCells rs)) (hL : ∀ w', w.grownBy w' (some p) → Lts w' (fun _ => True) rs L)
    (hM : 0 < L.length → ∀ ad, M = some ad → ad.block ≠ p) (hu : u ≤ L.length) (h32 : L.length * 32 ≤ 140737488351232) (hn : n ≤ 9223372036854775807) :
    Calls Try.prog 65 #[.pointer (some ⟨p, 0, none⟩), .int .i64 n] w fun e w' => e = .returned (.int .i64 (nextV L u n)) ∧ Row w' p 61 [.slice M L.length c, .int .i64 (nextU L u n : Nat)] ∧ w.grownBy w' (some p) := by
  have HR := Lib.hid hr
  have hL0 := hL w (below_grown (Below.refl _ _) _)
  by_cases h1 : n < 1
  · have HV : Hid (nextV L u n = -1) := Lib.hid (if_pos h1)
    have HU : Hid (nextU L u n = u) := Lib.hid (if_pos (by omega))
    clear hr hC hL hM hL0
    go_enter Try.func65, Try.ntmps65
    go_wp2
    go_ret
    exact ⟨by rw [HV.out]; rfl, by rw [HU.out]; exact HR.out, below_grown (Below.refl _ _) _⟩
  · by_cases h2 : n = 1
    · have HV : Hid (nextV L u n = 0) := Lib.hid ((if_neg h1).trans (if_pos h2))
      have HU : Hid (nextU L u n = u) := Lib.hid (if_pos (by omega))
      subst h2
      clear hr hC hL hM hL0
      go_enter Try.func65, Try.ntmps65
      go_wp2
      go_ret
      exact ⟨by rw [HV.out]; rfl, by rw [HU.out]; exact HR.out, below_grown (Below.refl _ _) _⟩
    · have e2 : (n == 1) = false := beq_eq_false_iff_ne.2 h2
      have c0 : w.cell? ⟨p, 0, none⟩ = some (.slice M L.length c) := by rw [hr.cell]; rfl
      have c1 : w.cell? ⟨p, 1, none⟩ = some (.int .i64 u) := by rw [hr.cell]; rfl
      have f1 := hr.frozen 1
      have hp := hr.lt
      by_cases hul : u < L.length
      · have HU : Hid (nextU L u n = u + 1) := Lib.hid ((if_neg (by omega)).trans (if_pos hul))
        obtain ⟨l, hl⟩ : ∃ l, L[u]? = some l := ⟨_, List.getElem?_eq_getElem hul⟩
        obtain ⟨r, hrr⟩ : ∃ r, rs[u]? = some r := ⟨_, List.getElem?_eq_getElem (by rw [hL0.len]; exact hul)⟩
        have HV : Hid (nextV L u n = chooseV l.1 l.2 n) := Lib.hid ((if_neg h1).trans ((if_neg h2).trans (by unfold lotAt; rw [hl]; rfl)))
        have hpp := hL0.p u r l hrr hl
        have HWs := Lib.hid (fun w' hg => (hL w' hg).ws u r l hrr hl)
        have hws0 := hL0.ws u r l hrr hl
        have hlr := hL0.len
        obtain ⟨ad, hMa, hcell⟩ := hC (by rw [rawCells_len]; omega)
        have hbk := hM (by omega) ad hMa
        have a0 : w.cell? (ad.add (u * 2)) = some (.int .i64 r.p) := by
          rw [hcell (u * 2) (by rw [rawCells_len]; omega), Nat.mul_comm]
          exact rawCells_p rs u r hrr
        have a1 : w.cell? (ad.add (u * 2 + 1)) = some r.sl := by
          rw [hcell (u * 2 + 1) (by rw [rawCells_len]; omega), Nat.mul_comm]
          exact rawCells_s rs u r hrr
        rw [hpp.1] at a0
        have CC := Lib.hid (fun w' (hg : w.grownBy w' (some p)) => refChoose_c l.1 r.A r.k r.c l.2 n w' (HWs.out w' hg).1 hws0.2.2.2.1 hpp.2 hn)
        obtain ⟨v, hv⟩ : ∃ v, chooseV l.1 l.2 n = v := ⟨_, rfl⟩
        rw [hv] at CC HV
        rw [← addr_add] at a1
        obtain ⟨ae, hae⟩ : ∃ ae, ad.add (u * 2) = ae := ⟨_, rfl⟩
        rw [hae] at a0 a1
        have hbe : ae.block ≠ p := by rw [← hae, add_block]; exact hbk
        have hwr : IntKind.i64.wrap (u : Int) = (u : Int) := IntWalk.i64_in _ (by omega)
        obtain ⟨len, hlen⟩ : ∃ len, L.length = len := ⟨_, rfl⟩
        have HLN := Lib.hid hlen
        rw [hlen] at c0 hul h32 hu
        have hu0 : (0 : Int) ≤ (u : Int) := by omega
        have hu1 : (u : Int) < (len : Int) := by omega
        have g1 : ¬ (len : Int) ≤ (u : Int) := by omega
        have HHr := Lib.hid hr
        clear hr hC hL hM hL0 hl hrr hpp hlr hcell hv HWs hws0 hlen hbk
        subst hMa
        go_enter Try.func65, Try.ntmps65
        go_wp2_with fail
        go_quiet (fail)
        go_upto_region 8 with (fail)
        have hS : w.grownBy ((w.drewN nq).setCell ⟨p, 1, none⟩ (.int .i64 ((u : Int) + 1))) (some p) := grown_set _ _
        have hRb := (HHr.out.drewN nq).set 1 (.int .i64 ((u : Int) + 1))
        have a0 := (far_cell (p := ⟨p, 1, none⟩) (v := .int .i64 ((u : Int) + 1)) (q := ae) hbe nq).trans a0
        have a1 := (far_cell (p := ⟨p, 1, none⟩) (v := .int .i64 ((u : Int) + 1)) (q := ae.add 1) (by rw [add_block]; exact hbe) nq).trans a1
        have c0 : ((w.drewN nq).setCell ⟨p, 1, none⟩ (.int .i64 ((u : Int) + 1))).cell? ⟨p, 0, none⟩ = some (.slice (some ad) len c) := by rw [hRb.cell, ← HLN.out]; rfl
        have c1 : ((w.drewN nq).setCell ⟨p, 1, none⟩ (.int .i64 ((u : Int) + 1))).cell? ⟨p, 1, none⟩ = some (.int .i64 ((u : Int) + 1)) := by rw [hRb.cell]; rfl
        generalize ((w.drewN nq).setCell ⟨p, 1, none⟩ (.int .i64 ((u : Int) + 1))) = w2 at *
        unfold Raw.sl at a1
        simp [Addr.add] at a1
        have HS := Lib.hid hS
        have HRb := Lib.hid hRb
        clear hS hRb f1
        go_still_tail 12, (by kernel_rfl)
        change wpList _ _ _ _ _ w2.drew
        go_wp2_with (go_at_call 61; refine (CC.out w2.drew (grownBy.tr HS.out (below_grown (Below.refl _ _).drew _))).mono ?_; rintro e w3 ⟨rfl, hb⟩; have HB := Lib.hid hb; clear hb)
        go_ret
        refine ⟨by rw [HV.out]; rfl, ?_, grownBy.tr HS.out (below_grown ((Below.refl _ w2).drew.trans HB.out) _)⟩
        rw [HU.out]
        exact Row.grown (w := w2) HRb.out ((Below.refl _ w2).drew.trans HB.out)
      · have hul2 : u = L.length := by omega
        have HU : Hid (nextU L u n = u) := Lib.hid ((if_neg (by omega)).trans (if_neg hul))
        have HV : Hid (nextV L u n = 0) := Lib.hid ((if_neg h1).trans ((if_neg h2).trans (by
          unfold lotAt
          rw [List.getElem?_eq_none (by omega)]
          show pickV 0 n = 0
          unfold pickV
          rw [if_neg h1]
          exact Int.zero_tmod _)))
        have HHr := Lib.hid hr
        clear hr hC hL hM hL0
        subst hul2
        go_enter Try.func65, Try.ntmps65
        go_wp2_with fail
        go_quiet (fail)
        go_wp2
        go_ret
        exact ⟨by rw [HV.out]; rfl, by rw [HU.out]; exact HHr.out, below_grown (Drw.below ⟨_, rfl⟩) _⟩
end Go.Proofs.Ytplejggfeehbcaa
