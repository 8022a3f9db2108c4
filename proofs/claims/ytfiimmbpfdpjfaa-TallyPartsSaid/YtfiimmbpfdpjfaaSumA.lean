/-
  tally.sum: what is said of some goroutines.
-/
import Derived.Test.YtfiimmbpfdpjfaaTalF
import Derived.Test.YtfiimmbpfdpjfaaFigM
import Derived.Handy
namespace Go.Proofs.Ytfiimmbpfdpjfaa
open Go.RowKit
set_option linter.unusedSimpArgs false

/-- what is said of some -/
structure Sm where
  fn : ByteArray
  gos : Int
  fin : Int
  be : Nat
  ra : Nat
  sh : Nat
  fa : Nat
def Sm.cells (s : Sm) : List Value := [.string s.fn, .int .i64 s.gos, .int .i64 s.fin, .float .f64 s.be, .float .f64 s.ra, .float .f64 s.sh, .float .f64 s.fa]
def Sm.agg (s : Sm) : Value := .agg s.cells.toArray
def finK : List St → Nat
  | [] => 0
  | s :: ss => (if s.fin = true then 1 else 0) + finK ss
theorem finK_le : ∀ ss : List St, finK ss ≤ ss.length
  | [] => Nat.le_refl _
  | s :: ss => by have := finK_le ss; simp only [finK, List.length_cons]; split <;> omega
theorem finK_snoc : ∀ (ss : List St) (s : St), finK (ss ++ [s]) = finK ss + if s.fin = true then 1 else 0
  | [], s => by simp [finK]
  | t :: ss, s => by simp only [List.cons_append, finK, finK_snoc ss s]; omega
/-- what is said of some, but their name and share -/
def sumS (ss : List St) (fn : ByteArray) (sh : Nat) : Sm := ⟨fn, (ss.length : Nat), (finK ss : Nat), sumV (valuesV ss 1), meanV (valuesV ss 5), sh, fairV (valuesV ss 1)⟩
set_option maxHeartbeats 2000000 in
set_option maxRecDepth 100000 in
theorem tsum_c' (A : Option Addr) (n c : Nat) (ss : List St) (w : World) (h : Ss w A n ss) (hn : n ≤ 1000) :
    Calls Try.prog 17 #[.slice A n c] w fun e w' => e = .returned (sumS ss ByteArray.empty 0).agg ∧ Below w.heap.size w w' := by
  have HS := Lib.hid h
  have HX1 := Lib.hid (valuesV_lt ss 1)
  have HX5 := Lib.hid (valuesV_lt ss 5)
  have HL1 : Hid ((valuesV ss 1).length = n) := Lib.hid (by simp [valuesV, h.len])
  have HL5 : Hid ((valuesV ss 5).length = n) := Lib.hid (by simp [valuesV, h.len])
  have C1 := Lib.hid (fun w h => values_c A n c ss 1 w h HS.out.len hn)
  have C5 := Lib.hid (fun w h => values_c A n c ss 5 w h HS.out.len hn)
  unfold sumS
  generalize valuesV ss 1 = xs at *
  generalize valuesV ss 5 = ys at *
  clear h
  go_enter Try.func17, Try.ntmps17
  go_wp2_with fail
  have hR0 := Row.new w 28 [.string { data := #[] }, .int .i64 0, .int .i64 0, .float .f64 0, .float .f64 0, .float .f64 0, .float .f64 0]
  have hB0 : Below w.heap.size w (w.alloc (Obj.cells #[.string { data := #[] }, .int .i64 0, .int .i64 0, .float .f64 0, .float .f64 0, .float .f64 0, .float .f64 0] 28)) := (Below.refl _ _).alloc (Nat.le_refl _) _
  change Row (w.alloc (Obj.cells #[.string { data := #[] }, .int .i64 0, .int .i64 0, .float .f64 0, .float .f64 0, .float .f64 0, .float .f64 0] 28)) _ _ _ at hR0
  generalize w.alloc (Obj.cells #[.string { data := #[] }, .int .i64 0, .int .i64 0, .float .f64 0, .float .f64 0, .float .f64 0, .float .f64 0] 28) = w0 at *
  have HR0 := Lib.hid hR0
  have HB0 := Lib.hid hB0
  have HS0 := Lib.hid (HS.out.below hB0)
  obtain ⟨s0, hs0⟩ : ∃ s0, w.heap.size = s0 := ⟨_, rfl⟩
  rw [hs0] at HR0 ⊢
  have HE0 := Lib.hid hs0
  have hs0l : s0 < w0.heap.size := HR0.out.lt
  clear hR0 hB0 hs0
  refine (C1.out w0 HS0.out.cs).mono ?_
  rintro e w1 ⟨rfl, hr1, hb1⟩
  have HF1 : Hid (Fs w1 (some ⟨w0.heap.size, 0, none⟩) n xs) := Lib.hid (HL1.out ▸ Fs.of_row (xs := xs) (rest := []) (by rw [List.append_nil]; exact hr1) (by rw [HL1.out]; omega) HX1.out)
  have HB1 := Lib.hid hb1
  clear hr1 hb1
  obtain ⟨g1, hg1⟩ : ∃ g1, w0.heap.size = g1 := ⟨_, rfl⟩
  rw [hg1] at HF1 ⊢
  have HG1 := Lib.hid hg1
  clear hg1
  go_wp2_with fail
  refine (sum_c _ n n xs w1 HF1.out (Nat.le_refl _)).mono ?_
  rintro e w2 ⟨rfl, d2, rfl⟩
  have HB2 : Hid (Below w0.heap.size w0 (w1.drewN d2)) := Lib.hid (below_drewN HB1.out d2)
  have HF2 := Lib.hid (HF1.out.below (below_drewN (Below.refl _ w1) d2))
  have HS2 := Lib.hid (HS0.out.below HB2.out)
  clear HF1 HB1
  go_wp2_with fail
  refine (C5.out _ HS2.out.cs).mono ?_
  rintro e w3 ⟨rfl, hr3, hb3⟩
  have HF3 : Hid (Fs w3 (some ⟨(w1.drewN d2).heap.size, 0, none⟩) n ys) := Lib.hid (HL5.out ▸ Fs.of_row (xs := ys) (rest := []) (by rw [List.append_nil]; exact hr3) (by rw [HL5.out]; omega) HX5.out)
  have HB3 : Hid (Below w0.heap.size w0 w3) := Lib.hid (HB2.out.trans (hb3.mono HB2.out.size))
  have HX3 := Lib.hid (HF2.out.below hb3)
  clear hr3 hb3 HB2 HF2 HS2
  go_wp2_with fail
  refine (mean_c _ n n ys w3 HF3.out (Nat.le_refl _)).mono ?_
  rintro e w4 ⟨rfl, d4, rfl⟩
  have HB4 : Hid (Below w0.heap.size w0 (w3.drewN d4)) := Lib.hid (below_drewN HB3.out d4)
  have HX4 := Lib.hid (HX3.out.below (below_drewN (Below.refl _ w3) d4))
  clear HF3 HB3 HX3
  go_wp2_with fail
  refine (fair_c _ n n xs _ HX4.out (Nat.le_refl _)).mono ?_
  rintro e w5 ⟨rfl, d5, rfl⟩
  have HB5 : Hid (Below w0.heap.size w0 ((w3.drewN d4).drewN d5)) := Lib.hid (below_drewN HB4.out d5)
  clear HB4 HX4
  obtain ⟨be, hbe⟩ : ∃ be, sumV xs = be := ⟨_, rfl⟩
  obtain ⟨ra, hra⟩ : ∃ ra, meanV ys = ra := ⟨_, rfl⟩
  obtain ⟨fa, hfa⟩ : ∃ fa, fairV xs = fa := ⟨_, rfl⟩
  rw [hbe, hra, hfa]
  have HE1 := Lib.hid hbe
  have HE2 := Lib.hid hra
  have HE3 := Lib.hid hfa
  clear hbe hra hfa
  generalize (w3.drewN d4).drewN d5 = w5 at *
  go_wp2_with fail
  have hR5 := Row.new w5 28 [.string { data := #[] }, .int .i64 n, .int .i64 0, .float .f64 be, .float .f64 ra, .float .f64 0, .float .f64 fa]
  change Row (w5.alloc (Obj.cells #[.string { data := #[] }, .int .i64 n, .int .i64 0, .float .f64 be, .float .f64 ra, .float .f64 0, .float .f64 fa] 28)) _ _ _ at hR5
  have HBA : Hid (Below w0.heap.size w0 (w5.alloc (Obj.cells #[.string { data := #[] }, .int .i64 n, .int .i64 0, .float .f64 be, .float .f64 ra, .float .f64 0, .float .f64 fa] 28))) := Lib.hid (HB5.out.alloc HB5.out.size _)
  have HRA := Lib.hid hR5
  have hbo : w0.heap.size ≤ w5.heap.size := HB5.out.size
  obtain ⟨bo, hbo2⟩ : ∃ bo, w5.heap.size = bo := ⟨_, rfl⟩
  rw [hbo2] at HRA hbo ⊢
  clear hR5 hbo2
  go_loopw [6, 21] (fun _ a wr => ∃ j : Nat, j ≤ n ∧ a = .int .i64 j ∧ Row wr bo 28 [.string { data := #[] }, .int .i64 n, .int .i64 (finK (ss.take j) : Nat), .float .f64 be, .float .f64 ra, .float .f64 0, .float .f64 fa] ∧ Below w0.heap.size w0 wr) (fun _ a _ => n - (intOf a).toNat)
  case atStart => exact ⟨0, by omega, rfl, HRA.out, HBA.out⟩
  case round =>
    obtain ⟨j, hj, rfl, hR, hB⟩ := hrel
    clear HRA HBA
    by_cases hlt : j < n
    · obtain ⟨s, hs⟩ : ∃ s, ss[j]? = some s := ⟨_, List.getElem?_eq_getElem (by rw [HS.out.len]; exact hlt)⟩
      obtain ⟨ad, hA, hcell⟩ := (HS0.out.below hB).cs (by rw [sts_len, HS.out.len]; omega)
      obtain ⟨ae, hae⟩ : ∃ ae, ad.add (j * 7) = ae := ⟨_, rfl⟩
      obtain ⟨a0, a1, a2, a3, a4, a5, a6⟩ := st_at hcell hs hae
      have HFK : Hid (finK (ss.take (j + 1)) = finK (ss.take j) + if s.fin = true then 1 else 0) := Lib.hid (by rw [List.take_add_one, hs]; exact finK_snoc _ _)
      have hfk : finK (ss.take j) ≤ j := Nat.le_trans (finK_le _) (by rw [List.length_take]; omega)
      obtain ⟨q, hq⟩ : ∃ q, finK (ss.take j) = q := ⟨_, rfl⟩
      rw [hq] at HFK hfk hR
      have HR := Lib.hid hR
      have HB := Lib.hid hB
      obtain ⟨v0, v1, v2, v3, v4, v5, v6⟩ := s
      have j0 : (0 : Int) ≤ (j : Int) := by omega
      have hbl : bo < wr.heap.size := hR.lt
      have d0 : decide ((j : Int) < (n : Int)) = true := decide_eq_true (by omega)
      subst hA
      clear hR hB hcell hs hq
      cases v6 with
      | true =>
        have c2 : ∀ o, (wr.alloc o).cell? ⟨bo, 2, none⟩ = some (.int .i64 q) := fun o => by rw [(HR.out.alloc o).cell]; rfl
        have f2 : ∀ o, (wr.alloc o).frozen? ⟨bo, 2, none⟩ = false := fun o => (HR.out.alloc o).frozen 2
        have HFK2 : Hid (finK (ss.take (j + 1)) = q + 1) := Lib.hid (by rw [HFK.out]; rfl)
        go_wp2_with fail
        go_roundw
        case rel =>
          refine ⟨j + 1, by omega, by go_num, ?_, (HB.out.setCell (p := ⟨bo, 2, none⟩) hbo _).alloc (by simpa [World.setCell] using HB.out.size) _⟩
          rw [HFK2.out]
          exact (HR.out.set 2 (.int .i64 ((q : Int) + 1))).alloc _
        case measure => simp [intOf] <;> omega
      | false =>
        have HFK2 : Hid (finK (ss.take (j + 1)) = q) := Lib.hid (by rw [HFK.out]; rfl)
        go_wp2_with fail
        go_roundw
        case rel =>
          refine ⟨j + 1, by omega, by go_num, ?_, HB.out.alloc HB.out.size _⟩
          rw [HFK2.out]
          exact HR.out.alloc _
        case measure => simp [intOf] <;> omega
    · have hjn : j = n := by omega
      subst hjn
      rw [List.take_of_length_le (Nat.le_of_eq HS.out.len)] at hR
      have HR := Lib.hid hR
      have HB := Lib.hid hB
      have HLN := Lib.hid HS.out.len
      have HRS := Lib.hid (HR0.out.below hB hs0l)
      have d0 : decide ((j : Int) < (j : Int)) = false := decide_eq_false (by omega)
      have hq := finK_le ss
      obtain ⟨q, hq⟩ : ∃ q, finK ss = q := ⟨_, rfl⟩
      rw [hq] at HR
      have HQ := Lib.hid hq
      have b0 := HR.out.cell 0
      have b1 := HR.out.cell 1
      have b2 := HR.out.cell 2
      have b3 := HR.out.cell 3
      have b4 := HR.out.cell 4
      have b5 := HR.out.cell 5
      have b6 := HR.out.cell 6
      simp only [List.getElem?_cons_zero, List.getElem?_cons_succ] at b0 b1 b2 b3 b4 b5 b6
      have z0 := HRS.out.cell 0
      have z1 := HRS.out.cell 1
      have z2 := HRS.out.cell 2
      have z3 := HRS.out.cell 3
      have z4 := HRS.out.cell 4
      have z5 := HRS.out.cell 5
      have z6 := HRS.out.cell 6
      simp only [List.getElem?_cons_zero, List.getElem?_cons_succ] at z0 z1 z2 z3 z4 z5 z6
      have f0 := HRS.out.frozen 0
      have f1 := HRS.out.frozen 1
      have f2 := HRS.out.frozen 2
      have f3 := HRS.out.frozen 3
      have f4 := HRS.out.frozen 4
      have f5 := HRS.out.frozen 5
      have f6 := HRS.out.frozen 6
      clear hR hB hq
      go_wp2_with fail
      generalize hW : World.setCell _ ⟨s0, 6, none⟩ (Value.float .f64 fa) = W
      have HW : Row W s0 28 [.string { data := #[] }, .int .i64 j, .int .i64 q, .float .f64 be, .float .f64 ra, .float .f64 0, .float .f64 fa] := by
        rw [← hW]
        exact ((((((HRS.out.set 0 _).set 1 _).set 2 _).set 3 _).set 4 _).set 5 _).set 6 _
      have hs : w.heap.size ≤ s0 := by rw [HE0.out]; exact Nat.le_refl _
      have HBW : Below w.heap.size w W := by
        rw [← hW]
        have h0 := HB0.out.trans (HB.out.mono HB0.out.size)
        exact ((((((h0.setCell (p := ⟨s0, 0, none⟩) hs _).setCell (p := ⟨s0, 1, none⟩) hs _).setCell (p := ⟨s0, 2, none⟩) hs _).setCell (p := ⟨s0, 3, none⟩) hs _).setCell (p := ⟨s0, 4, none⟩) hs _).setCell (p := ⟨s0, 5, none⟩) hs _).setCell (p := ⟨s0, 6, none⟩) hs _
      clear hW
      have y0 := HW.cell 0
      have y1 := HW.cell 1
      have y2 := HW.cell 2
      have y3 := HW.cell 3
      have y4 := HW.cell 4
      have y5 := HW.cell 5
      have y6 := HW.cell 6
      simp only [List.getElem?_cons_zero, List.getElem?_cons_succ] at y0 y1 y2 y3 y4 y5 y6
      try simp only [Exit.inBlock, Exit.then]
      refine bodyPost_ret (v := .agg #[.string { data := #[] }, .int .i64 j, .int .i64 q, .float .f64 be, .float .f64 ra, .float .f64 0, .float .f64 fa]) (by simp [results, Try.results17, go_sem, y0, y1, y2, y3, y4, y5, y6]) rfl ?_
      refine ⟨?_, HBW⟩
      rw [HQ.out, HLN.out, HE1.out, HE2.out, HE3.out]
      rfl
end Go.Proofs.Ytfiimmbpfdpjfaa
