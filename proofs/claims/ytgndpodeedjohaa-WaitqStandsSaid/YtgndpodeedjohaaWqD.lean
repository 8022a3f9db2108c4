/-
  find, Get of a book.
-/
import Derived.Test.YtgndpodeedjohaaWqC
import Derived.Deep.QuietTactic
import Derived.BigQuiet
import Derived.Deep.RegionHeld3
import Derived.Deep.RegionLaw
import Derived.Deep.DrawnRows
import Derived.Laws.ResultCell
import Derived.Laws.Rows
import Derived.StillTailTactics
namespace Go.Proofs.Ytgndpodeedjohaa
open Go.RowKit Go.Maps
set_option linter.unusedSimpArgs false

theorem results_cell2_row {P : Program} {fn : Func} {p u : Tmp} {ty : TypeId} (h : fn.results = #[.cell p ty, .tmp u]) (tmps : Array Value) (w : World) (g : Nat) (t : TypeId) (cs : Array Value) (fr : Nat × Nat) (d : TypeDesc)
    (hp : tmps.getD p undef = .pointer (some ⟨g, 0, none⟩)) (hg : w.heap[g]? = some (.cells cs t fr))
    (hu : P.underlying ty = some d) (hd : (match d with | .struct _ | .array _ _ => true | _ => false) = true) (hi : (P.info? ty).map (·.size) = some cs.size) :
    (results fn tmps).run P w = .ok (.tuple #[.agg cs, tmps.getD u undef]) w := by
  rw [results_cell_tmp h]
  have hp' : tmps[p]?.getD undef = .pointer (some ⟨g, 0, none⟩) := by simpa using hp
  simp [hp', asAddr, run_loadVar_row w g t ty cs fr d hg hu hd hi, Result.andThen]
/-- the wait of a handle -/
def fnd (N : List Nd) (s g : Int) : Option Nd := N.find? fun x => decide (x.rc.ms = s ∧ x.rc.mg = g)
theorem fnd_some {N : List Nd} {s g : Int} {x : Nd} (h : fnd N s g = some x) : x ∈ N ∧ x.rc.ms = s ∧ x.rc.mg = g := by
  unfold fnd at h
  have := List.find?_some h
  exact ⟨List.mem_of_find?_eq_some h, by simpa using this⟩
theorem fnd_none {N : List Nd} {s g : Int} (h : ∀ x ∈ N, x.rc.ms = s → x.rc.mg ≠ g) : fnd N s g = none := by
  unfold fnd
  rw [List.find?_eq_none]
  intro x hx
  simp only [decide_eq_true_eq, not_and]
  exact fun e => h x hx e
theorem fnd_mem {N : List Nd} (hn : (N.map (·.rc.ms)).Nodup) {x : Nd} (hx : x ∈ N) : fnd N x.rc.ms x.rc.mg = some x := by
  cases h : fnd N x.rc.ms x.rc.mg with
  | none =>
    unfold fnd at h
    rw [List.find?_eq_none] at h
    have := h x hx
    simp at this
  | some y =>
    obtain ⟨h1, h2, _⟩ := fnd_some h
    rw [nodup_inj hn h1 hx h2]
theorem Nd.at_ {w : World} {b e : Nat} {x : Nd} {a n : Option Nat} (h : Row w b e (x.cells a n)) :
    w.cell? ⟨b, 0, none⟩ = some (.int .u32 x.rc.ms) ∧ w.cell? ⟨b, 1, none⟩ = some (.int .u32 x.rc.mg) ∧ w.cell? ⟨b, 2, none⟩ = some (.int .u32 x.rc.hs) ∧ w.cell? ⟨b, 3, none⟩ = some (.int .u32 x.rc.hg) ∧
    w.cell? ⟨b, 4, none⟩ = some (.int .u32 x.rc.os) ∧ w.cell? ⟨b, 5, none⟩ = some (.int .u32 x.rc.og) ∧ w.cell? ⟨b, 6, none⟩ = some (.int .i64 x.rc.sd) ∧ w.cell? ⟨b, 7, none⟩ = some (.int .i64 x.rc.arm) ∧
    w.cell? ⟨b, 8, none⟩ = some (.int .i64 x.rc.vn) ∧ w.cell? ⟨b, 9, none⟩ = some (.int .u32 x.rc.vs) ∧ w.cell? ⟨b, 10, none⟩ = some (.int .u32 x.rc.vg) ∧ w.cell? ⟨b, 11, none⟩ = some (.int .i64 x.ser) ∧
    w.cell? ⟨b, 12, none⟩ = some (pt a) ∧ w.cell? ⟨b, 13, none⟩ = some (pt n) :=
  ⟨h.cell 0, h.cell 1, h.cell 2, h.cell 3, h.cell 4, h.cell 5, h.cell 6, h.cell 7, h.cell 8, h.cell 9, h.cell 10, h.cell 11, h.cell 12, h.cell 13⟩
def fndV (o : Option Nd) : Value := .tuple #[pt (o.map (·.blk)), .int .i64 (match o with | some _ => 0 | none => 111)]
theorem fndV_none : fndV none = .tuple #[.pointer none, .int .i64 111] := rfl
theorem fndV_some (x : Nd) : fndV (some x) = .tuple #[.pointer (some ⟨x.blk, 0, none⟩), .int .i64 0] := rfl
set_option maxHeartbeats 2000000 in
set_option maxRecDepth 100000 in
theorem find_c (bp : Nat) (B : Bk) (s g : Int) (w : World) (h : BookAt w bp B) (hs : 0 ≤ s ∧ s < 4294967296) :
    Calls Try.prog 33 #[.pointer (some ⟨bp, 0, none⟩), .agg #[.int .u32 s, .int .u32 g]] w fun e w' =>
      e = .returned (fndV (fnd B.N s g)) ∧ Below w.heap.size w w' := by
  have hA : Below w.heap.size w (w.alloc (.cells #[.int .u32 s, .int .u32 g] 41)) := (Below.refl _ _).alloc (Nat.le_refl _) _
  have hR := Row.new w 41 [.int .u32 s, .int .u32 g]
  change Row (w.alloc (.cells #[.int .u32 s, .int .u32 g] 41)) _ _ _ at hR
  have r0 := hR.cell 0
  have r1 := hR.cell 1
  dsimp only [List.getElem?_cons_zero, List.getElem?_cons_succ] at r0 r1
  have h1 := h.below hA
  obtain ⟨_, c1, _, _, _⟩ := h1.fields
  obtain ⟨A, c, hsv, hcell⟩ := own_form h1.mem.slots
  have hfew := h1.ok.few
  rw [hsv] at c1
  have HA := Lib.hid hA
  have H1 := Lib.hid h1
  obtain ⟨n, hn⟩ : ∃ n, B.gens.length = n := ⟨_, rfl⟩
  rw [hn] at c1 hcell hfew
  have HNL := Lib.hid hn
  clear h h1 hA hR hsv hn
  by_cases hs1 : s < 1
  · have HF : Hid (fnd B.N s g = none) := Lib.hid (fnd_none fun x hx e => by
      obtain ⟨i, hi, _⟩ := H1.out.ok.slot x hx
      omega)
    have d1 : decide (s < 1) = true := decide_eq_true hs1
    go_enter Try.func33, Try.ntmps33
    go_wp2_with fail
    generalize w.alloc (.cells #[.int .u32 s, .int .u32 g] 41) = w1 at *
    go_quiet (fail)
    go_wp2
    go_ret2
    exact ⟨by rw [HF.out, fndV_none]; rfl, below_drewN HA.out _⟩
  · have d1 : decide (s < 1) = false := decide_eq_false hs1
    by_cases hs2 : (n : Int) < s
    · have HF : Hid (fnd B.N s g = none) := Lib.hid (fnd_none fun x hx e => by
        obtain ⟨i, hi, hg⟩ := H1.out.ok.slot x hx
        have := (List.getElem?_eq_some_iff.1 hg).1
        rw [HNL.out] at this
        omega)
      have d2 : decide ((n : Int) < s) = true := decide_eq_true hs2
      go_enter Try.func33, Try.ntmps33
      go_wp2_with fail
      generalize w.alloc (.cells #[.int .u32 s, .int .u32 g] 41) = w1 at *
      go_quiet (fail)
      go_wp2
      go_ret2
      exact ⟨by rw [HF.out, fndV_none]; rfl, below_drewN HA.out _⟩
    · have d2 : decide ((n : Int) < s) = false := decide_eq_false hs2
      obtain ⟨i, hi⟩ : ∃ i : Nat, s = (i : Int) + 1 := ⟨(s - 1).toNat, by omega⟩
      subst hi
      have hin : i < n := by omega
      obtain ⟨gb, hA', cs, _⟩ := hcell i _ (slotCells_get hin)
      subst hA'
      have hw : IntKind.u32.wrap ((i : Int) + 1 - 1) = (i : Int) := by simp [IntKind.wrap, IntKind.bits, IntKind.signed]; omega
      have i0 : (0 : Int) ≤ (i : Int) := by omega
      have i1 : (i : Int) < (n : Int) := by omega
      cases hso : slotOf B.N i with
      | none =>
        rw [hso] at cs
        have HF : Hid (fnd B.N ((i : Int) + 1) g = none) := Lib.hid (fnd_none fun x hx e => absurd e (slotOf_none hso x hx))
        simp only [pt] at cs
        clear hso hcell
        go_enter Try.func33, Try.ntmps33
        go_wp2_with fail
        generalize w.alloc (.cells #[.int .u32 ((i : Int) + 1), .int .u32 g] 41) = w1 at *
        go_quiet (fail)
        go_wp2_with fail
        go_quiet (fail)
        go_wp2_with fail
        go_quiet (fail)
        go_wp2
        go_ret2
        exact ⟨by rw [HF.out, fndV_none]; rfl, below_drewN (below_drewN (below_drewN HA.out _) _) _⟩
      | some b =>
        obtain ⟨x, hx, hxs, hxb⟩ := slotOf_some hso
        rw [hso] at cs
        obtain ⟨a0, a1, _⟩ := Nd.at_ (H1.out.mem.node x hx)
        rw [hxb] at a0 a1
        rw [hxs] at a0
        simp only [pt] at cs
        have HXB := Lib.hid hxb
        have e1 := fun w => run_eql_handle ((i : Int) + 1) x.rc.mg ((i : Int) + 1) g w
        have e2 := fun w => run_neq_handle ((i : Int) + 1) x.rc.mg ((i : Int) + 1) g w
        obtain ⟨mg, hmg⟩ : ∃ mg, x.rc.mg = mg := ⟨_, rfl⟩
        rw [hmg] at a1 e1 e2
        by_cases hgg : mg = g
        · have hsm : sameH ((i : Int) + 1) mg ((i : Int) + 1) g = true := sameH_iff.2 ⟨rfl, hgg⟩
          have HF : Hid (fnd B.N ((i : Int) + 1) g = some x) := Lib.hid (by
            have := fnd_mem H1.out.ok.ms hx
            rw [hxs, hmg, hgg] at this
            exact this)
          rw [hsm] at e1 e2
          clear hso hcell hsm hgg hmg hxs hxb hx
          go_enter Try.func33, Try.ntmps33
          go_wp2_with fail
          generalize w.alloc (.cells #[.int .u32 ((i : Int) + 1), .int .u32 g] 41) = w1 at *
          go_quiet (fail)
          go_wp2_with fail
          go_quiet (fail)
          go_wp2_with fail
          go_quiet (fail)
          go_wp2
          go_ret2
          exact ⟨by rw [HF.out, fndV_some, HXB.out]; rfl, below_drewN (below_drewN (below_drewN HA.out _) _) _⟩
        · have hsm : sameH ((i : Int) + 1) mg ((i : Int) + 1) g = false := by rw [← Bool.not_eq_true, sameH_iff]; exact fun e => hgg e.2
          have HF : Hid (fnd B.N ((i : Int) + 1) g = none) := Lib.hid (fnd_none fun y hy e => by
            have : y = x := nodup_inj H1.out.ok.ms hy hx (e.trans hxs.symm)
            subst this
            rw [hmg]; exact hgg)
          rw [hsm] at e1 e2
          clear hso hcell hsm hgg hmg hxs hxb hx
          go_enter Try.func33, Try.ntmps33
          go_wp2_with fail
          generalize w.alloc (.cells #[.int .u32 ((i : Int) + 1), .int .u32 g] 41) = w1 at *
          go_quiet (fail)
          go_wp2_with fail
          go_quiet (fail)
          go_wp2_with fail
          go_quiet (fail)
          go_wp2
          go_ret2
          exact ⟨by rw [HF.out, fndV_none]; rfl, below_drewN (below_drewN (below_drewN HA.out _) _) _⟩
end Go.Proofs.Ytgndpodeedjohaa
