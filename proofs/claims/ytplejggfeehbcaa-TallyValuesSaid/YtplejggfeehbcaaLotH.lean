/-
  own and still of lots: a list of the caller's with marks behind it.
-/
import Derived.Test.YtplejggfeehbcaaLotG
import Derived.Laws.CopyOwn
namespace Go.Proofs.Ytplejggfeehbcaa
open Go.RowKit
set_option linter.unusedSimpArgs false

set_option maxHeartbeats 1000000 in
set_option maxRecDepth 100000 in
theorem own17_c (A : Option Addr) (n c : Nat) (xs : List Nat) (w : World) (h : Fs w A n xs) (hn : n ≤ 17592186044400) :
    Calls Try.prog 58 #[.slice A n c] w fun e w' => e = .returned (.slice (some ⟨w.heap.size, 0, none⟩) n (n + 2)) ∧ Row w' w.heap.size 24 (flo xs ++ [.float .f64 9094988921128908188, .float .f64 9110180938284831491]) ∧ Below w.heap.size w w' := by
  have hmk := fun w => run_make_flo ((n : Int) + 2) (by omega) (by omega) w
  rw [show ((n : Int) + 2).toNat = n + 2 by omega] at hmk
  have HF := Lib.hid h
  have HL := Lib.hid h.len
  clear h
  go_enter Try.func58, Try.ntmps58
  have hsz : (Try.prog.info? 24).map (·.size) = some 1 := by kernel_rfl
  go_wp2_with (with_reducible refine wpList_copy_splice rfl (.tmp 8) (.tmp 9) 31 31 rfl 24 Try.underlying31 hsz _ _ _ _ _ _ rfl rfl w.heap.size 0 (List.replicate (n + 2) (.float .f64 0)) 24 ?h1 (flo xs) ?h2 ?h3 ?h4 ?h5 w.heap.size w ?h6 (Nat.le_refl _) ?h7)
  case h1 =>
    have e : Array.replicate (n + 2) (Value.float .f64 0) = (List.replicate (n + 2) (Value.float .f64 0)).toArray := by simp
    rw [e]
    exact Row.new w 24 _
  case h2 => rw [flo_len, HL.out]; show n = min n (n + 2); omega
  case h3 =>
    intro h0
    rw [flo_len, HL.out] at h0
    obtain ⟨ad, hA, hc⟩ := HF.out.at_ h0
    refine ⟨ad, hA, fun j v hv => ?_⟩
    have hj : j < n := by have := (List.getElem?_eq_some_iff.1 hv).1; rw [flo_len, HL.out] at this; exact this
    rw [flo_get _ _ (by rw [HL.out]; exact hj)] at hv
    rw [← hv, ← hc j hj]
    exact ((Below.refl w.heap.size w).alloc (Nat.le_refl _) _).cell (p := ad.add j) (cell_lt (hc j hj))
  case h4 => rw [flo_len, HL.out, List.length_replicate]; omega
  case h5 =>
    intro v hv
    obtain ⟨x, _, rfl⟩ := List.mem_map.1 hv
    rfl
  case h6 => exact (Below.refl w.heap.size w).alloc (Nat.le_refl _) _
  case h7 =>
    intro w1 hR hB
    have hR1 : Row w1 w.heap.size 24 (flo xs ++ [.float .f64 0, .float .f64 0]) := by
      have e : splice (List.replicate (n + 2) (Value.float .f64 0)) 0 (flo xs) = flo xs ++ [.float .f64 0, .float .f64 0] := by
        unfold splice
        rw [List.take_zero, List.nil_append, Nat.zero_add, flo_len, HL.out, List.drop_replicate, show n + 2 - n = 2 by omega]
        rfl
      rw [← e]
      exact hR.out
    have c0 : w1.cell? ⟨w.heap.size, n, none⟩ = some (.float .f64 0) := by rw [hR1.cell, List.getElem?_append_right (Nat.le_of_eq (by rw [flo_len, HL.out])), flo_len, HL.out, Nat.sub_self]; rfl
    have c1 : w1.cell? ⟨w.heap.size, n + 1, none⟩ = some (.float .f64 0) := by rw [hR1.cell, List.getElem?_append_right (by rw [flo_len, HL.out]; omega), flo_len, HL.out, show n + 1 - n = 1 by omega]; rfl
    have f0 := hR1.frozen n
    have f1 := hR1.frozen (n + 1)
    have HR := Lib.hid hR1
    have HB := Lib.hid hB
    clear hR hB hR1
    go_wp2
    go_ret
    refine ⟨rfl, ?_, (HB.out.setCell (Nat.le_refl _) _).setCell (Nat.le_refl _) _⟩
    have := (HR.out.set n (.float .f64 9094988921128908188)).set (n + 1) (.float .f64 9110180938284831491)
    rw [set_marks _ _ (by rw [flo_len, HL.out])] at this
    exact this

set_option maxHeartbeats 1000000 in
set_option maxRecDepth 100000 in
/-- a list of the caller's is as it was, and so are the marks behind it -/
theorem still17_c (A : Option Addr) (n c b : Nat) (xs : List Nat) (w : World) (h : Fs w A n xs) (hn : n ≤ 17592186044400) (hr : Row w b 24 (flo xs ++ [.float .f64 9094988921128908188, .float .f64 9110180938284831491])) :
    Calls Try.prog 62 #[.slice (some ⟨b, 0, none⟩) n (n + 2), .slice A n c] w fun e w' => e = .returned (.bool true) ∧ Drw w w' := by
  have HL := Lib.hid h.len
  have HF := Lib.hid h
  obtain ⟨ad, hc⟩ := h.get
  have HC := Lib.hid hc
  have c0 : w.cell? ⟨b, n, none⟩ = some (.float .f64 9094988921128908188) := by rw [hr.cell, List.getElem?_append_right (Nat.le_of_eq (by rw [flo_len, HL.out])), flo_len, HL.out, Nat.sub_self]; rfl
  have c1 : w.cell? ⟨b, n + 1, none⟩ = some (.float .f64 9110180938284831491) := by rw [hr.cell, List.getElem?_append_right (by rw [flo_len, HL.out]; omega), flo_len, HL.out, show n + 1 - n = 1 by omega]; rfl
  have HR := Lib.hid hr
  have g1 : (Fl.F.order 9094988921128908188 9094988921128908188 == some .eq) = true := by decide
  have g2 : (Fl.F.order 9110180938284831491 9110180938284831491 == some .eq) = true := by decide
  clear h hc hr
  go_enter Try.func62, Try.ntmps62
  go_wp2
  go_loopw [5] (fun i wr => ∃ k : Nat, k ≤ n ∧ i = .int .i64 k ∧ Drw w wr) (fun i _ => n - (intOf i).toNat)
  case atStart => exact ⟨0, by omega, rfl, Drw.refl _⟩
  case round =>
    obtain ⟨k, hk, rfl, ⟨d, rfl⟩⟩ := hrel
    by_cases hlt : k < n
    · obtain ⟨hA, hcell⟩ := HC.out (by omega)
      have cx := hcell k hlt
      have cu : w.cell? ⟨b, k, none⟩ = some (.float .f64 (xs.getD k 0)) := by
        rw [HR.out.cell, List.getElem?_append_left (by rw [flo_len, HL.out]; exact hlt), flo_get _ _ (by rw [HL.out]; exact hlt)]
      generalize xs.getD k 0 = x at *
      subst hA
      clear hcell
      have CB := Lib.hid (bits_c x x)
      rw [decide_eq_true rfl] at CB
      go_wp2_with fail
      go_quiet ((go_at_call 23; refine (CB.out _).mono ?_; rintro e w' ⟨rfl, rfl⟩; exact ⟨rfl, _, rfl⟩))
      go_wp2
      go_roundw
      case rel => exact ⟨k + 1, by omega, by go_num, ⟨_, rfl⟩⟩
      case measure => simp [intOf]; omega
    · have hkn : k = n := by omega
      subst hkn
      go_wp2
      go_ret
      exact ⟨rfl, ⟨_, rfl⟩⟩
end Go.Proofs.Ytplejggfeehbcaa
