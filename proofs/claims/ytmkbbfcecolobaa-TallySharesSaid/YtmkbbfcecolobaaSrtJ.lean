/-
  figure.Rank: all places, in the order of what stands there.
-/
import Derived.Test.YtmkbbfcecolobaaSrtI
import Derived.Test.YtmkbbfcecolobaaFigA
namespace Go.Proofs.Ytmkbbfcecolobaa
open Go.RowKit Srt
set_option linter.unusedSimpArgs false

theorem Fs.chg {w w1 : World} {g : Nat} {A : Option Addr} {n : Nat} {xs : List Nat} (h : Fs w A n xs) (hb : Chg g w w1) (hg : ∀ ad, 0 < n → A = some ad → ad.block ≠ g) : Fs w1 A n xs :=
  ⟨h.len, h.small, h.bits, fun hn => by
    obtain ⟨ad, e, hc⟩ := h.at_ hn
    refine ⟨ad, e, fun j hj => ?_⟩
    have hl := cell_lt (hc j hj)
    rw [World.cell?_of_block (hb.block _ hl (fun e1 => hg ad hn e (by rw [add_block] at e1; exact Option.some.inj e1)))]
    exact hc j hj⟩
theorem rank1_c (A : Option Addr) (n c bx x y : Nat) (xs : List Nat) (w : World) (hbx : w.cell? ⟨bx, 0, none⟩ = some (.slice A n c)) (h : Fs w A n xs) (hx : x < n) (hy : y < n) :
    Calls Try.prog 33 #[.int .i64 (x : Nat), .int .i64 (y : Nat), .pointer (some ⟨bx, 0, none⟩)] w fun e w' => e = .returned (.int .i64 (Fl.ordV (xs.getD x 0) (xs.getD y 0))) ∧ ∃ n, w' = w.drewN n := by
  obtain ⟨ad, rfl, hc⟩ := h.at_ (by omega)
  have cx := hc x hx
  have cy := hc y hy
  have C := Lib.hid (order_c (xs.getD x 0) (xs.getD y 0) (h.word x) (h.word y))
  have hs := h.small
  clear hc h
  generalize xs.getD x 0 = u at *
  generalize xs.getD y 0 = v at *
  go_enter Try.func33, Try.ntmps33
  go_wp2_with fail
  go_quiet ((go_at_call 12; refine (C.out _).mono ?_; rintro e w' ⟨rfl, rfl⟩; exact ⟨rfl, _, rfl⟩))
  go_wp2_with fail
  go_ret
  exact ⟨rfl, _, rfl⟩
abbrev keyAt (xs : List Nat) : Nat → Nat := fun p => Fl.key (xs.getD p 0)
abbrev ordAt (xs : List Nat) : Nat → Nat → Int := fun a b => Fl.ordV (xs.getD a 0) (xs.getD b 0)
theorem cmp_rank {w : World} {A : Option Addr} {n c bx g : Nat} {xs : List Nat} (hbx : w.cell? ⟨bx, 0, none⟩ = some (.slice A n c)) (h : Fs w A n xs) (hgb : bx ≠ g) (hg : ∀ ad, 0 < n → A = some ad → ad.block ≠ g) : Cmp g w bx n (keyAt xs) (ordAt xs) := by
  refine ⟨fun w' hc x y hx hy => rank1_c A n c bx x y xs w' ?_ (h.chg hc hg) hx hy, fun x y hx hy => ?_⟩
  · have hl := cell_lt hbx
    rw [World.cell?_of_block (hc.block _ hl (fun e => hgb (Option.some.inj e)))]
    exact hbx
  · show Fl.ordV _ _ < 0 ↔ Fl.key _ < Fl.key _
    unfold Fl.ordV
    split
    · constructor <;> intro <;> omega
    · split <;> constructor <;> intro <;> omega
theorem infoI : (Try.prog.info? 3).map (fun i => (i.zero, i.size, i.bytes)) = some (some (.int .i64 0), 1, 8) := by kernel_rfl
theorem made_int (n : Nat) : madeCells #[Value.int .i64 0] n = (List.replicate n (Value.int .i64 0)).toArray := by
  apply Array.ext_getElem?
  intro i
  unfold madeCells
  by_cases h : i < n
  · simp [h, Nat.mod_one]
  · simp [h]
theorem zeros_inl (n : Nat) : List.replicate n (Value.int .i64 0) = inl n fun _ => 0 := by
  apply List.ext_getElem?
  intro j
  by_cases hj : j < n
  · rw [inl_get n _ j hj]; simp [hj]
  · rw [List.getElem?_eq_none (by simp; omega), List.getElem?_eq_none (by rw [inl_len]; omega)]
/-- make([]int, m) -/
theorem run_make_int (m : Int) (h0 : 0 ≤ m) (hm : m ≤ 17592186044416) (w : World) :
    (Instr.makeSlice 25 (.int .i64 m) (.int .i64 m)).run Try.prog w = .ok (.slice (some ⟨w.heap.size, 0, none⟩) m.toNat m.toNat) (w.alloc (.cells (inl m.toNat fun _ => 0).toArray 3)) := by
  obtain ⟨i0, hi, hz⟩ := Option.map_eq_some_iff.1 infoI
  simp only [Prod.mk.injEq] at hz
  obtain ⟨hz0, hz1, hz2⟩ := hz
  have := run_make (P := Try.prog) w 25 3 i0 (.int .i64 0) Try.underlying25 hi hz0 .i64 .i64 m m h0 (Int.le_refl _) (by rw [hz2]; omega) (by omega)
  rw [this, hz1, Nat.mul_one]
  show Result.ok _ (w.alloc (.cells (madeCells #[.int .i64 0] _) _)) = _
  rw [made_int, zeros_inl]
set_option maxHeartbeats 1000000 in
theorem rank_c (A : Option Addr) (n c : Nat) (xs : List Nat) (w : World) (h : Fs w A n xs) (hn : n ≤ 17592186044400) :
    Calls Try.prog 9 #[.slice A n c] w fun e w' => ∃ f, e = .returned (.slice (some ⟨w.heap.size + 1, 0, none⟩) n n) ∧ Arr w' (w.heap.size + 1) n f ∧ Mv 0 n (fun k => k) f ∧ Sorted (keyAt xs) f 0 n ∧ Below w.heap.size w w' := by
  have hmk := fun w => run_make_int (n : Int) (by omega) (by omega) w
  rw [show ((n : Int)).toNat = n by omega] at hmk
  have HF := Lib.hid h
  clear h
  go_enter Try.func9, Try.ntmps9
  go_wp2_with fail
  have A0 : Arr ((w.alloc (Obj.cells #[Value.slice A n c] 22)).alloc (Obj.cells (inl n fun _ => 0).toArray 3)) (w.heap.size + 1) n fun _ => 0 := by
    have := Row.new (w.alloc (Obj.cells #[Value.slice A n c] 22)) 3 (inl n fun _ => 0)
    exact Arr.of_row (by simpa using this) (by omega)
  have B0 : ((w.alloc (Obj.cells #[Value.slice A n c] 22)).alloc (Obj.cells (inl n fun _ => 0).toArray 3)).cell? ⟨w.heap.size, 0, none⟩ = some (.slice A n c) := by
    rw [((Row.new w 22 [Value.slice A n c]).alloc _).cell]; rfl
  have L0 : Below w.heap.size w ((w.alloc (Obj.cells #[Value.slice A n c] 22)).alloc (Obj.cells (inl n fun _ => 0).toArray 3)) :=
    ((Below.refl w.heap.size w).alloc (Nat.le_refl _) _).alloc (by simp) _
  have HA0 := Lib.hid A0
  have HB0 := Lib.hid B0
  have HL0 := Lib.hid L0
  clear A0 B0 L0
  go_loopw [4, 10] (fun x y wr => ∃ k : Nat, k ≤ n ∧ y = .int .i64 k ∧ Arr wr (w.heap.size + 1) n (fun j => if j < k then j else 0) ∧ wr.cell? ⟨w.heap.size, 0, none⟩ = some (.slice A n c) ∧ Below w.heap.size w wr) (fun _ y _ => n - (intOf y).toNat)
  case atStart => exact ⟨0, by omega, rfl, HA0.out, HB0.out, HL0.out⟩
  case round =>
    obtain ⟨k, hk, rfl, hA, hB, hL⟩ := hrel
    clear HA0 HB0 HL0
    have HA := Lib.hid hA
    have HB := Lib.hid hB
    have HL := Lib.hid hL
    clear hA hB hL
    by_cases hkn : k < n
    · have d0 : decide ((k : Int) < (n : Int)) = true := decide_eq_true (by omega)
      have cx : wr.cell? ⟨w.heap.size + 1, k, none⟩ = some (.int .i64 ((if k < k then k else 0 : Nat) : Int)) := HA.out.cell k hkn
      have fx := HA.out.fro k hkn
      have hs := HA.out.set hkn k
      have HS := Lib.hid hs
      obtain ⟨u, hu⟩ : ∃ u : Nat, (if k < k then k else 0) = u := ⟨_, rfl⟩

      rw [hu] at cx
      clear hs hu
      go_wp2
      go_roundw
      case rel =>
        refine ⟨k + 1, by omega, by go_num, HS.out.congr ?_, ?_, HL.out.setCell (by simp) _⟩
        · funext j
          by_cases e1 : j = k
          · subst e1; rw [if_pos rfl, if_pos (by omega)]
          · rw [if_neg e1]
            by_cases e2 : j < k
            · rw [if_pos e2, if_pos (by omega)]
            · rw [if_neg e2, if_neg (by omega)]
        · rw [World.cell?_setCell_other _ _ _ _ (fun e => by injection e with e1; omega)]
          exact HB.out
      case measure => simp [intOf] <;> omega
    · have d0 : decide ((k : Int) < (n : Int)) = false := decide_eq_false (by omega)
      have hkn' : k = n := by omega
      subst hkn'
      have hA1 : Arr wr (w.heap.size + 1) k fun j => j := by
        refine ⟨fun j hj => ?_, HA.out.fro, HA.out.lt, HA.out.small, HA.out.row⟩
        rw [HA.out.cell j hj, if_pos hj]
      have hF := HF.out.below HL.out
      have hC := cmp_rank HB.out hF (g := w.heap.size + 1) (by omega) (fun ad h0 e => by obtain ⟨ad', e1, h2⟩ := HF.out.block h0; rw [e1] at e; cases e; omega)
      have C := Lib.hid (sortStable_c (w.heap.size + 1) k k w.heap.size (keyAt xs) (ordAt xs) wr hA1 hC)
      clear hA1 hF hC
      go_wp2_with fail
      refine C.out.mono ?_
      rintro e w1 ⟨rfl, f, hA2, hM, hS, hG⟩
      have HA2 := Lib.hid hA2
      have HM := Lib.hid hM
      have HS := Lib.hid hS
      have HG := Lib.hid hG
      clear hA2 hM hS hG
      go_wp2
      go_ret
      exact ⟨f, rfl, HA2.out, HM.out, HS.out, HL.out.grown HG.out (by have := HL.out.size; omega) (fun j e => by cases e; omega)⟩
end Go.Proofs.Ytmkbbfcecolobaa
