/-
  own and still: a list of the caller's with marks behind it.
-/
import Derived.Test.YtmkbbfcecolobaaFigG
import Derived.Laws.CopyOwn
namespace Go.Proofs.Ytmkbbfcecolobaa
open Go.RowKit
set_option linter.unusedSimpArgs false

@[go_sem] theorem run_store_float {P : Program} {w : World} {a : Addr} {m : Mode} (k : FloatKind) (b : Nat) : (store a (.float k b) m).run P w = stored P w a (.float k b) m := run_store P w a _ m rfl

theorem infoF : (Try.prog.info? 30).map (fun i => (i.zero, i.size, i.bytes)) = some (some (.float .f64 0), 1, 8) := by kernel_rfl
theorem made_flo (n : Nat) : madeCells #[Value.float .f64 0] n = (List.replicate n (Value.float .f64 0)).toArray := by
  apply Array.ext_getElem?
  intro i
  unfold madeCells
  by_cases h : i < n
  · simp [h, Nat.mod_one]
  · simp [h]
/-- make([]float64, m) -/
theorem run_make_flo (m : Int) (h0 : 0 ≤ m) (hm : m ≤ 17592186044416) (w : World) :
    (Instr.makeSlice 22 (.int .i64 m) (.int .i64 m)).run Try.prog w = .ok (.slice (some ⟨w.heap.size, 0, none⟩) m.toNat m.toNat) (w.alloc (.cells (List.replicate m.toNat (.float .f64 0)).toArray 30)) := by
  obtain ⟨i0, hi, hz⟩ := Option.map_eq_some_iff.1 infoF
  simp only [Prod.mk.injEq] at hz
  obtain ⟨hz0, hz1, hz2⟩ := hz
  have := run_make (P := Try.prog) w 22 30 i0 (.float .f64 0) Try.underlying22 hi hz0 .i64 .i64 m m h0 (Int.le_refl _) (by rw [hz2]; omega) (by omega)
  rw [this, hz1, Nat.mul_one]
  show Result.ok _ (w.alloc (.cells (madeCells #[.float .f64 0] _) _)) = _
  rw [made_flo]

theorem flo_len (xs : List Nat) : (flo xs).length = xs.length := by simp [flo]
theorem flo_get (xs : List Nat) (j : Nat) (h : j < xs.length) : (flo xs)[j]? = some (.float .f64 (xs.getD j 0)) := by
  simp [flo, List.getElem?_eq_getElem h, List.getD_eq_getElem?_getD]

theorem set_marks (fs : List Value) (n : Nat) (h : fs.length = n) (a b u v : Value) : ((fs ++ [a, b]).set n u).set (n + 1) v = fs ++ [u, v] := by
  subst h
  simp [List.set_append]

set_option maxHeartbeats 1000000 in
set_option maxRecDepth 100000 in
theorem own_c (A : Option Addr) (n c : Nat) (xs : List Nat) (w : World) (h : Fs w A n xs) (hn : n ≤ 17592186044400) :
    Calls Try.prog 7 #[.slice A n c] w fun e w' => e = .returned (.slice (some ⟨w.heap.size, 0, none⟩) n (n + 2)) ∧ Row w' w.heap.size 30 (flo xs ++ [.float .f64 4635118810238550016, .float .f64 4635189178982727680]) ∧ Below w.heap.size w w' := by
  have hmk := fun w => run_make_flo ((n : Int) + 2) (by omega) (by omega) w
  rw [show ((n : Int) + 2).toNat = n + 2 by omega] at hmk
  have HF := Lib.hid h
  have HL := Lib.hid h.len
  clear h
  go_enter Try.func7, Try.ntmps7
  have hsz : (Try.prog.info? 30).map (·.size) = some 1 := by kernel_rfl
  go_wp2_with (with_reducible refine wpList_copy_splice rfl (.tmp 8) (.tmp 9) 22 22 rfl 30 Try.underlying22 hsz _ _ _ _ _ _ rfl rfl w.heap.size 0 (List.replicate (n + 2) (.float .f64 0)) 30 ?h1 (flo xs) ?h2 ?h3 ?h4 ?h5 w.heap.size w ?h6 (Nat.le_refl _) ?h7)
  case h1 =>
    have e : Array.replicate (n + 2) (Value.float .f64 0) = (List.replicate (n + 2) (Value.float .f64 0)).toArray := by simp
    rw [e]
    exact Row.new w 30 _
  case h2 => rw [flo_len, HL.out]; show n = min n (n + 2); omega
  case h3 =>
    intro h0
    rw [flo_len, HL.out] at h0
    obtain ⟨ad, hA, hc⟩ := HF.out.at_ h0
    refine ⟨ad, hA, fun j v hv => ?_⟩
    have hj : j < n := by have := (List.getElem?_eq_some_iff.1 hv).1; rw [flo_len, HL.out] at this; exact this
    rw [flo_get _ _ (by rw [HL.out]; exact hj)] at hv
    rw [← hv, ← hc j hj]
    exact ((Below.refl w.heap.size w).alloc (Nat.le_refl _) _).cell (p := ad.add j) (cell_lt (hc j hj))
  case h4 => rw [flo_len, HL.out, List.length_replicate]; omega
  case h5 =>
    intro v hv
    obtain ⟨x, _, rfl⟩ := List.mem_map.1 hv
    rfl
  case h6 => exact (Below.refl w.heap.size w).alloc (Nat.le_refl _) _
  case h7 =>
    intro w1 hR hB
    have hR1 : Row w1 w.heap.size 30 (flo xs ++ [.float .f64 0, .float .f64 0]) := by
      have e : splice (List.replicate (n + 2) (Value.float .f64 0)) 0 (flo xs) = flo xs ++ [.float .f64 0, .float .f64 0] := by
        unfold splice
        rw [List.take_zero, List.nil_append, Nat.zero_add, flo_len, HL.out, List.drop_replicate, show n + 2 - n = 2 by omega]
        rfl
      rw [← e]
      exact hR.out
    have c0 : w1.cell? ⟨w.heap.size, n, none⟩ = some (.float .f64 0) := by rw [hR1.cell, List.getElem?_append_right (Nat.le_of_eq (by rw [flo_len, HL.out])), flo_len, HL.out, Nat.sub_self]; rfl
    have c1 : w1.cell? ⟨w.heap.size, n + 1, none⟩ = some (.float .f64 0) := by rw [hR1.cell, List.getElem?_append_right (by rw [flo_len, HL.out]; omega), flo_len, HL.out, show n + 1 - n = 1 by omega]; rfl
    have f0 := hR1.frozen n
    have f1 := hR1.frozen (n + 1)
    have HR := Lib.hid hR1
    have HB := Lib.hid hB
    clear hR hB hR1
    go_wp2
    go_ret
    refine ⟨rfl, ?_, (HB.out.setCell (Nat.le_refl _) _).setCell (Nat.le_refl _) _⟩
    have := (HR.out.set n (.float .f64 4635118810238550016)).set (n + 1) (.float .f64 4635189178982727680)
    rw [set_marks _ _ (by rw [flo_len, HL.out])] at this
    exact this

theorem Fs.get {w : World} {A : Option Addr} {n : Nat} {xs : List Nat} (h : Fs w A n xs) : ∃ ad, 0 < n → A = some ad ∧ ∀ j, j < n → w.cell? (ad.add j) = some (.float .f64 (xs.getD j 0)) := by
  by_cases h0 : 0 < n
  · obtain ⟨ad, h1⟩ := h.at_ h0
    exact ⟨ad, fun _ => h1⟩
  · exact ⟨default, fun h1 => absurd h1 h0⟩

set_option maxHeartbeats 1000000 in
set_option maxRecDepth 100000 in
/-- a list of the caller's is as it was, and so are the marks behind it -/
theorem still_c (A : Option Addr) (n c b : Nat) (xs : List Nat) (w : World) (h : Fs w A n xs) (hn : n ≤ 17592186044400) (hr : Row w b 30 (flo xs ++ [.float .f64 4635118810238550016, .float .f64 4635189178982727680])) :
    Calls Try.prog 11 #[.slice (some ⟨b, 0, none⟩) n (n + 2), .slice A n c] w fun e w' => e = .returned (.bool true) ∧ Drw w w' := by
  have HL := Lib.hid h.len
  have HF := Lib.hid h
  obtain ⟨ad, hc⟩ := h.get
  have HC := Lib.hid hc
  have c0 : w.cell? ⟨b, n, none⟩ = some (.float .f64 4635118810238550016) := by rw [hr.cell, List.getElem?_append_right (Nat.le_of_eq (by rw [flo_len, HL.out])), flo_len, HL.out, Nat.sub_self]; rfl
  have c1 : w.cell? ⟨b, n + 1, none⟩ = some (.float .f64 4635189178982727680) := by rw [hr.cell, List.getElem?_append_right (by rw [flo_len, HL.out]; omega), flo_len, HL.out, show n + 1 - n = 1 by omega]; rfl
  have HR := Lib.hid hr
  have g1 : (Fl.F.order 4635118810238550016 4635118810238550016 == some .eq) = true := by decide
  have g2 : (Fl.F.order 4635189178982727680 4635189178982727680 == some .eq) = true := by decide
  clear h hc hr
  go_enter Try.func11, Try.ntmps11
  go_wp2
  go_loopw [6] (fun i wr => ∃ k : Nat, k ≤ n ∧ i = .int .i64 k ∧ Drw w wr) (fun i _ => n - (intOf i).toNat)
  case atStart => exact ⟨0, by omega, rfl, Drw.refl _⟩
  case round =>
    obtain ⟨k, hk, rfl, ⟨d, rfl⟩⟩ := hrel
    by_cases hlt : k < n
    · obtain ⟨hA, hcell⟩ := HC.out (by omega)
      have cx := hcell k hlt
      have cu : w.cell? ⟨b, k, none⟩ = some (.float .f64 (xs.getD k 0)) := by
        rw [HR.out.cell, List.getElem?_append_left (by rw [flo_len, HL.out]; exact hlt), flo_get _ _ (by rw [HL.out]; exact hlt)]
      generalize xs.getD k 0 = x at *
      subst hA
      clear hcell
      have CB := Lib.hid (bits_c x x)
      rw [decide_eq_true rfl] at CB
      go_wp2_with fail
      go_quiet ((go_at_call 26; refine (CB.out _).mono ?_; rintro e w' ⟨rfl, rfl⟩; exact ⟨rfl, _, rfl⟩))
      go_wp2
      go_roundw
      case rel => exact ⟨k + 1, by omega, by go_num, ⟨_, rfl⟩⟩
      case measure => simp [intOf]; omega
    · have hkn : k = n := by omega
      subst hkn
      go_wp2
      go_ret
      exact ⟨rfl, ⟨_, rfl⟩⟩
end Go.Proofs.Ytmkbbfcecolobaa
