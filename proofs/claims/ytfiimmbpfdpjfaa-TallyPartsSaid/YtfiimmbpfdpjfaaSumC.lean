/-
  The document's sum, of all and of those of a name. (Written by gen_c.py.)
-/
import Derived.Test.YtfiimmbpfdpjfaaSumB
namespace Go.Proofs.Ytfiimmbpfdpjfaa
open Go.RowKit
set_option linter.unusedSimpArgs false

theorem toList_beq (a b : ByteArray) : (a.toList == b.toList) = decide (a = b) := by
  rw [← beq_toListBytes]
  by_cases h : a = b
  · rw [decide_eq_true h]; exact (MapKept.bytes_beq a b).2 h
  · rw [decide_eq_false h]
    cases hc : a == b with
    | false => rfl
    | true => exact absurd ((MapKept.bytes_beq a b).1 hc) h
theorem sts_append (a b : List St) : sts (a ++ b) = sts a ++ sts b := by
  induction a with
  | nil => rfl
  | cons s a ih => simp only [List.cons_append, sts, ih, List.append_assoc]
theorem sts_single (s : St) : sts [s] = s.cells := by simp [sts]
theorem valuesV_len (ss : List St) (k : Int) : (valuesV ss k).length = ss.length := by simp [valuesV]
def named (name : ByteArray) (ss : List St) : List St := ss.filter fun s => decide (s.fn = name)
theorem named_len (name : ByteArray) (ss : List St) : (named name ss).length ≤ ss.length := List.length_filter_le _ _
theorem take_next {α : Type} {ss : List α} {j : Nat} {s : α} (hs : ss[j]? = some s) : ss.take (j + 1) = ss.take j ++ [s] := by rw [List.take_add_one, hs]; rfl
/-- what owns its goroutines reads as them -/
theorem owned_ss {w : World} {base : Nat} {v : Value} {n : Nat} {ss : List St} (h : w.ownsRow base 38 7 v n (sts ss)) : ∃ A c, v = .slice A n c ∧ Ss w A n ss := by
  have hl : ss.length = n := by have := h.1; rw [sts_len] at this; omega
  rcases h.2 with ⟨e1, e2⟩ | ⟨g, cap, cur, e1, _, hgg, _, _, _, htake⟩
  · exact ⟨none, 0, by rw [e1, e2], hl, fun h0 => by rw [sts_len, hl] at h0; omega⟩
  · refine ⟨_, cap, e1, hl, fun h0 => ⟨_, rfl, fun j hj => ?_⟩⟩
    have hR : Row w g 38 (sts ss ++ cur.toList.drop (n * 7)) := by
      unfold Row
      rw [hgg]
      congr 1
      rw [← htake, List.take_append_drop]
    rw [add_zero, hR.cell, List.getElem?_append_left hj]
theorem owned_ss' {w : World} {base : Nat} {A : Option Addr} {c : Nat} {n : Nat} {ss : List St} (h : w.ownsRow base 38 7 (.slice A n c) n (sts ss)) : Ss w A n ss := by
  obtain ⟨A', c', e, hS⟩ := owned_ss h
  cases e
  exact hS
theorem own_set {w : World} {base e size n b o : Nat} {v x : Value} {xs : List Value} (h : w.ownsRow base e size v n xs) (hb : b < base) : (w.setCell ⟨b, o, none⟩ x).ownsRow base e size v n xs := by
  refine h.kept (row := some b) ⟨rfl, rfl, rfl, by simp [World.setCell], fun k _ hk => Below.heap_setCell w _ x k (fun e => hk (by rw [e]))⟩ ?_
  cases hv : v.ownBlock with
  | none => exact .inl rfl
  | some g => right; intro e; have := (h.lt g hv).1; cases e; omega
theorem own_below {w w' : World} {base e size n : Nat} {v : Value} {xs : List Value} (h : w.ownsRow base e size v n xs) (hb : Below w.heap.size w w') : w'.ownsRow base e size v n xs :=
  World.ownsRow.kept h (below_grown hb none) (Classical.em _)
theorem Fs.set_far {w : World} {A : Option Addr} {n : Nat} {xs : List Nat} {b o : Nat} {v : Value} (h : Fs w A n xs) (hA : ∀ ad, A = some ad → b < ad.block) : Fs (w.setCell ⟨b, o, none⟩ v) A n xs :=
  ⟨h.len, h.small, h.bits, fun hn => by
    obtain ⟨ad, e, hc⟩ := h.at_ hn
    refine ⟨ad, e, fun j hj => ?_⟩
    rw [World.cell?_of_block (Below.heap_setCell w _ v _ (by rw [add_block]; have := hA ad e; show ad.block ≠ b; omega))]
    exact hc j hj⟩
set_option maxHeartbeats 4000000 in
set_option maxRecDepth 100000 in
theorem refAll_c (A : Option Addr) (n c : Nat) (ss : List St) (name : ByteArray) (beats : Nat) (w : World) (h : Ss w A n ss) (hn : n ≤ 1000) :
    Calls Try.prog 19 #[.slice A n c, .string name, .bool true, .float .f64 beats] w fun e w' => e = .returned (sumS ss name (byV (sumV (valuesV ss 1)) (sumV (valuesV ss 1)))).agg ∧ Below w.heap.size w w' := by
  obtain ⟨i0, hi, hz0, hz1, hz2⟩ := info_parts infoS
  have HS := Lib.hid h
  clear h
  go_enter Try.func19, Try.ntmps19
  go_wp2_with fail
  have hR0 := Row.new w 28 zeroSum
  have hB0 : Below w.heap.size w (w.alloc (Obj.cells zeroSum.toArray 28)) := (Below.refl _ _).alloc (Nat.le_refl _) _
  change Row (w.alloc (Obj.cells #[.string { data := #[] }, .int .i64 0, .int .i64 0, .float .f64 0, .float .f64 0, .float .f64 0, .float .f64 0] 28)) _ _ _ at hR0
  change Below _ _ (w.alloc (Obj.cells #[.string { data := #[] }, .int .i64 0, .int .i64 0, .float .f64 0, .float .f64 0, .float .f64 0, .float .f64 0] 28)) at hB0
  obtain ⟨w0, hw0⟩ : ∃ w0, w.alloc (Obj.cells #[.string { data := #[] }, .int .i64 0, .int .i64 0, .float .f64 0, .float .f64 0, .float .f64 0, .float .f64 0] 28) = w0 := ⟨_, rfl⟩
  have hsz0 : w0.heap.size = w.heap.size + 1 := by rw [← hw0]; simp
  rw [hw0] at hR0 hB0 ⊢
  have hR1 := Row.new w0 28 [.string name, .int .i64 0, .int .i64 0, .float .f64 0, .float .f64 0, .float .f64 0, .float .f64 0]
  have hR01 := hR0.alloc (Obj.cells #[.string name, .int .i64 0, .int .i64 0, .float .f64 0, .float .f64 0, .float .f64 0, .float .f64 0] 28)
  have hB1 := hB0.alloc hB0.size (Obj.cells #[.string name, .int .i64 0, .int .i64 0, .float .f64 0, .float .f64 0, .float .f64 0, .float .f64 0] 28)
  have hsz1 : (w0.alloc (Obj.cells #[.string name, .int .i64 0, .int .i64 0, .float .f64 0, .float .f64 0, .float .f64 0, .float .f64 0] 28)).heap.size = w0.heap.size + 1 := by simp
  change Row (w0.alloc (Obj.cells #[.string name, .int .i64 0, .int .i64 0, .float .f64 0, .float .f64 0, .float .f64 0, .float .f64 0] 28)) _ _ _ at hR1
  generalize w0.alloc (Obj.cells #[.string name, .int .i64 0, .int .i64 0, .float .f64 0, .float .f64 0, .float .f64 0, .float .f64 0] 28) = w1 at *
  clear hw0 hR0
  obtain ⟨s0, hs0⟩ : ∃ s0, w.heap.size = s0 := ⟨_, rfl⟩
  rw [hs0] at hR01 hsz0 ⊢
  obtain ⟨bo, hbo⟩ : ∃ bo, s0 + 1 = bo := ⟨_, rfl⟩
  rw [hsz0, hbo] at hR1 hsz1
  rw [hbo] at ⊢
  have hs01 : s0 < bo := by omega
  have HE0 := Lib.hid hs0
  have HR01 := Lib.hid hR01
  have HR1 := Lib.hid hR1
  have HB1 : Hid (Below s0 w w1) := Lib.hid (by rw [← hs0]; exact hB1)
  clear hs0 hbo hR01 hR1 hB0 hB1
  go_loopw [9, 11] (fun v i wr => ∃ j : Nat, j ≤ n ∧ i = .int .i64 j ∧ wr.ownsRow (bo + 1) 38 7 v (ss.take j).length (sts (ss.take j)) ∧ Row wr bo 28 [.string name, .int .i64 ((ss.take j).length : Nat), .int .i64 (finK (ss.take j) : Nat), .float .f64 0, .float .f64 0, .float .f64 0, .float .f64 0] ∧ Row wr s0 28 zeroSum ∧ Below s0 w wr ∧ bo + 1 ≤ wr.heap.size) (fun _ i _ => n - (intOf i).toNat)
  case atStart => exact ⟨0, by omega, rfl, World.ownsRow_nil _ _ _ _, HR1.out, HR01.out, HB1.out, by omega⟩
  case round =>
    obtain ⟨j, hj, rfl, hown, hR, hR0, hB, hsz⟩ := hrel
    clear HR1 HR01 HB1
    by_cases hlt : j < n
    · obtain ⟨s, hs⟩ : ∃ s, ss[j]? = some s := ⟨_, List.getElem?_eq_getElem (by rw [HS.out.len]; exact hlt)⟩
      obtain ⟨ad, hA, hcell⟩ := (HS.out.below (by rw [HE0.out]; exact hB)).cs (by rw [sts_len, HS.out.len]; omega)
      obtain ⟨ae, hae⟩ : ∃ ae, ad.add (j * 7) = ae := ⟨_, rfl⟩
      obtain ⟨a0, a1, a2, a3, a4, a5, a6⟩ := st_at hcell hs hae
      have HT := Lib.hid (take_next hs)
      have HGET := Lib.hid hs
      have hpl : (ss.take j).length ≤ j := by rw [List.length_take]; omega
      have hfl : finK (ss.take j) ≤ j := Nat.le_trans (finK_le _) hpl
      have HR := Lib.hid hR
      have HR0 := Lib.hid hR0
      have HB := Lib.hid hB
      have HO := Lib.hid hown
      have j0 : (0 : Int) ≤ (j : Int) := by omega
      have d0 : decide ((j : Int) < (n : Int)) = true := decide_eq_true (by omega)
      have hbl : bo < wr.heap.size := by omega
      subst hA
      clear hR hR0 hB hown hcell hs
      have hnx : (ss.take (j + 1)) = (ss.take j) ++ [s] := HT.out
      obtain ⟨pre, hpre⟩ : ∃ pre, (ss.take j) = pre := ⟨_, rfl⟩
      rw [hpre] at HR HO hpl hfl hnx
      have HNX := Lib.hid hnx
      clear hpre HT hnx
      obtain ⟨m, hm⟩ : ∃ m, pre.length = m := ⟨_, rfl⟩
      obtain ⟨q, hq⟩ : ∃ q, finK pre = q := ⟨_, rfl⟩
      rw [hm] at HR HO hpl
      rw [hq] at HR hfl
      have HM := Lib.hid hm
      have HQ := Lib.hid hq
      clear hm hq
      have b1 := HR.out.cell 1
      have HSC := Lib.hid (sts_single s)
      obtain ⟨v0, v1, v2, v3, v4, v5, v6⟩ := s
      go_wp2_with (first
        | (at_builtin; refine wpList_append_own _ rfl _ _ 22 rfl (bo + 1) 38 i0 (.agg #[.int .i64 0, .string ByteArray.empty, .int .i64 0, .int .i64 0, .int .i64 0, .int .i64 0, .bool false]) 7 64 Try.underlying22 hi hz0 hz1 hz2 rfl (by decide) _ m (sts pre) rfl (World.ownsRow.alloc HO.out _) ⟨wr.heap.size, 0, none⟩ 1 1 [.int .i64 v0, .string v1, .int .i64 v2, .int .i64 v3, .int .i64 v4, .int .i64 v5, .bool v6] rfl rfl ?c1 ?c2 ?c3 ?c4 ?c5 ?_)
        | go_in)
      case c2 => exact ⟨rfl, rfl, rfl, rfl, rfl, rfl, rfl⟩
      case c3 => unfold maxLen; omega
      case c4 => omega
      case c5 => omega
      intro v' w4 hown' hgrow _
      have hob : ∀ k, (some k = u9.ownBlock) → bo + 1 ≤ k := fun k hk => (HO.out.lt k hk.symm).1
      have hgr : wr.grownBy w4 u9.ownBlock := (World.grownBy_alloc wr _ _).trans hgrow
      have HR4 : Hid (Row w4 bo 28 [.string name, .int .i64 m, .int .i64 q, .float .f64 0, .float .f64 0, .float .f64 0, .float .f64 0]) := Lib.hid ((hgr.block bo HR.out.lt (fun e => by have := hob bo e; omega)).trans HR.out)
      have HZ4 : Hid (Row w4 s0 28 zeroSum) := Lib.hid ((hgr.block s0 HR0.out.lt (fun e => by have := hob s0 e; omega)).trans HR0.out)
      have HB4 : Hid (Below s0 w w4) := Lib.hid (HB.out.grown hgr (by omega) (fun k e => by have := hob k e.symm; omega))
      have hsz4 : bo + 1 ≤ w4.heap.size := Nat.le_trans hsz hgr.size
      have c4 := (HS.out.below (by rw [HE0.out]; exact HB4.out)).cs (by rw [sts_len, HS.out.len]; omega)
      obtain ⟨ad', hA', hcell4⟩ := c4
      cases hA'
      have a64 := (st_at hcell4 (HGET.out) hae).2.2.2.2.2.2
      have HO4 := Lib.hid hown'
      have b1 := HR4.out.cell 1
      have b2 := HR4.out.cell 2
      have f1 := HR4.out.frozen 1
      have f2 := HR4.out.frozen 2
      simp only [List.getElem?_cons_zero, List.getElem?_cons_succ] at b1 b2
      clear hown' hgrow hgr hob hcell4
      cases v6 with
      | true =>
        go_wp2_with fail
        go_roundw
        case rel =>
          refine ⟨j + 1, by omega, by go_num, ?_, ?_, HZ4.out.far (by show s0 ≠ bo; omega) _ |>.far (by show s0 ≠ bo; omega) _, (HB4.out.setCell (p := ⟨bo, 1, none⟩) (by show s0 ≤ bo; omega) _).setCell (p := ⟨bo, 2, none⟩) (by show s0 ≤ bo; omega) _, by simpa [World.setCell] using hsz4⟩
          · rw [HNX.out, List.length_append, sts_append, HM.out]
            exact own_set (own_set (by rw [HSC.out]; exact HO4.out) (by omega)) (by omega)
          · rw [HNX.out, List.length_append, finK_snoc, HM.out, HQ.out]
            exact (HR4.out.set 1 _).set 2 _
        case measure => simp [intOf] <;> omega
      | false =>
        go_wp2_with fail
        go_roundw
        case rel =>
          refine ⟨j + 1, by omega, by go_num, ?_, ?_, HZ4.out.far (by show s0 ≠ bo; omega) _, HB4.out.setCell (p := ⟨bo, 1, none⟩) (by show s0 ≤ bo; omega) _, by simpa [World.setCell] using hsz4⟩
          · rw [HNX.out, List.length_append, sts_append, HM.out]
            exact own_set (by rw [HSC.out]; exact HO4.out) (by omega)
          · rw [HNX.out, List.length_append, finK_snoc, HM.out, HQ.out]
            exact HR4.out.set 1 _
        case measure => simp [intOf] <;> omega
    · have hjn : j = n := by omega
      have hall : ss.take j = ss := List.take_of_length_le (by rw [HS.out.len]; omega)
      rw [hall] at hown hR
      have d0 : decide ((j : Int) < (n : Int)) = false := decide_eq_false (by omega)
      have hpl : ss.length ≤ n := by rw [HS.out.len]; omega
      obtain ⟨pre, hpre⟩ : ∃ pre, ss = pre := ⟨_, rfl⟩
      rw [hpre] at hown hR hpl
      have HPQ := Lib.hid hpre
      obtain ⟨m, hm⟩ : ∃ m, pre.length = m := ⟨_, rfl⟩
      rw [hm] at hown hR hpl
      obtain ⟨q, hq⟩ : ∃ q, finK pre = q := ⟨_, rfl⟩
      rw [hq] at hR
      have HM := Lib.hid hm
      have HQ := Lib.hid hq
      obtain ⟨A', c', rfl, hSS⟩ := owned_ss hown
      have HO := Lib.hid hown
      have HR := Lib.hid hR
      have HR0 := Lib.hid hR0
      have HB := Lib.hid hB
      have HSS := Lib.hid hSS
      clear hown hR hR0 hB hSS hpre hm hq hall
      go_wp2_with fail
      refine (refValues_c A' m c' pre 1 wr HSS.out.cs HM.out (by omega)).mono ?_
      rintro e w1 ⟨A1, c1, rfl, hF1, hA1, hb1⟩
      have hR1 := HR.out.grown hb1
      have hO1 := own_below HO.out hb1
      have HF1 := Lib.hid hF1
      have HA1 : Hid (∀ ad, A1 = some ad → bo < ad.block) := Lib.hid (fun ad e => by have := (hA1 ad e).1; omega)
      have hZ1 := HR0.out.grown hb1
      have HB1 : Hid (Below s0 w w1) := Lib.hid (HB.out.trans (hb1.mono (by omega)))
      have hs1 : bo + 1 ≤ w1.heap.size := Nat.le_trans hsz hb1.size
      have HR1 := Lib.hid hR1
      have HO1 := Lib.hid hO1
      have HZ1 := Lib.hid hZ1
      obtain ⟨be, hbe⟩ : ∃ be, sumV (valuesV pre 1) = be := ⟨_, rfl⟩
      obtain ⟨ra, hra⟩ : ∃ ra, meanV (valuesV pre 5) = ra := ⟨_, rfl⟩
      obtain ⟨fr, hfr⟩ : ∃ fr, fairV (valuesV pre 1) = fr := ⟨_, rfl⟩
      have HX := Lib.hid (And.intro hbe (And.intro hra hfr))
      clear hF1 hA1 hb1 hR1 hO1 hZ1 HO HR HR0 HB HSS
      go_wp2_with fail
      refine (refSum_c A1 m c1 (valuesV pre 1) w1 HF1.out).mono ?_
      rintro e w2 ⟨rfl, d2, rfl⟩
      rw [hbe]
      have y3 := (HR1.out.drewN d2).cell 3
      have g3 := (HR1.out.drewN d2).frozen 3
      simp only [List.getElem?_cons_zero, List.getElem?_cons_succ] at y3
      have HR3 := Lib.hid ((HR1.out.drewN d2).set 3 (.float .f64 be))
      have HZ3 := Lib.hid ((HZ1.out.drewN d2).far (p := ⟨bo, 3, none⟩) (by show s0 ≠ bo; omega) (.float .f64 be))
      have HB3 := Lib.hid ((below_drewN HB1.out d2).setCell (p := ⟨bo, 3, none⟩) (by show s0 ≤ bo; omega) (.float .f64 be))
      have HO3 := Lib.hid (own_set (o := 3) (x := .float .f64 be) (own_below HO1.out (below_drewN (Below.refl _ w1) d2)) (show bo < bo + 1 by omega))
      have HF3 := Lib.hid (Fs.set_far (o := 3) (v := .float .f64 be) (HF1.out.below (below_drewN (Below.refl _ w1) d2)) HA1.out)
      have hs3 : bo + 1 ≤ ((w1.drewN d2).setCell ⟨bo, 3, none⟩ (.float .f64 be)).heap.size := by simpa [World.setCell] using hs1
      clear HR1 HZ1 HB1 HO1 HF1
      go_wp2_with fail
      generalize (w1.drewN d2).setCell ⟨bo, 3, none⟩ (Value.float .f64 be) = w3 at *
      refine (refValues_c A' m c' pre 5 w3 (owned_ss' HO3.out).cs HM.out (by omega)).mono ?_
      rintro e w4 ⟨A4, c4, rfl, hF4, _, hb4⟩
      have HR4 := Lib.hid (HR3.out.grown hb4)
      have HZ4 := Lib.hid (HZ3.out.grown hb4)
      have HB4 : Hid (Below s0 w w4) := Lib.hid (HB3.out.trans (hb4.mono (by omega)))
      have HF4 := Lib.hid (HF3.out.below hb4)
      have HG4 := Lib.hid hF4
      clear hF4 hb4 HR3 HZ3 HB3 HO3 HF3
      go_wp2_with fail
      refine (refMean_c A4 m c4 (valuesV pre 5) w4 HG4.out).mono ?_
      rintro e w5 ⟨rfl, d5, rfl⟩
      rw [hra]
      have y4 := (HR4.out.drewN d5).cell 4
      have g4 := (HR4.out.drewN d5).frozen 4
      simp only [List.set_cons_zero, List.set_cons_succ, List.getElem?_cons_zero, List.getElem?_cons_succ] at y4
      have HR5 := Lib.hid ((HR4.out.drewN d5).set 4 (.float .f64 ra))
      have HZ5 := Lib.hid ((HZ4.out.drewN d5).far (p := ⟨bo, 4, none⟩) (by show s0 ≠ bo; omega) (.float .f64 ra))
      have HB5 := Lib.hid ((below_drewN HB4.out d5).setCell (p := ⟨bo, 4, none⟩) (by show s0 ≤ bo; omega) (.float .f64 ra))
      have HF5 := Lib.hid (Fs.set_far (o := 4) (v := .float .f64 ra) (HF4.out.below (below_drewN (Below.refl _ w4) d5)) HA1.out)
      clear HR4 HZ4 HB4 HF4 HG4
      go_wp2_with fail
      generalize (w4.drewN d5).setCell ⟨bo, 4, none⟩ (Value.float .f64 ra) = w5 at *
      refine (refFair_c A1 m c1 (valuesV pre 1) w5 HF5.out (by omega)).mono ?_
      rintro e w6 ⟨rfl, hb6⟩
      rw [hfr]
      have HR6 := Lib.hid (HR5.out.grown hb6)
      have HZ6 := Lib.hid (HZ5.out.grown hb6)
      have HB6 : Hid (Below s0 w w6) := Lib.hid (HB5.out.trans (hb6.mono (by have := HZ5.out.lt; omega)))
      clear hb6 HR5 HZ5 HB5 HF5
      have HR6 : Hid (Row w6 bo 28 [.string name, .int .i64 m, .int .i64 q, .float .f64 be, .float .f64 ra, .float .f64 0, .float .f64 0]) := Lib.hid HR6.out
      obtain ⟨⟨b0, b1, b2, b3, b4, b5, b6⟩, h0, h1, h2, h3, h4, h5, h6⟩ := HR6.out.at7
      have HR7 : Hid (Row (w6.setCell ⟨bo, 6, none⟩ (.float .f64 fr)) bo 28 [.string name, .int .i64 m, .int .i64 q, .float .f64 be, .float .f64 ra, .float .f64 0, .float .f64 fr]) := Lib.hid (HR6.out.set 6 (.float .f64 fr))
      have HZ7 := Lib.hid (HZ6.out.far (p := ⟨bo, 6, none⟩) (by show s0 ≠ bo; omega) (.float .f64 fr))
      have HB7 := Lib.hid (HB6.out.setCell (p := ⟨bo, 6, none⟩) (by show s0 ≤ bo; omega) (.float .f64 fr))
      go_wp2_with fail
      generalize w6.setCell ⟨bo, 6, none⟩ (Value.float .f64 fr) = w7 at *
      clear HR6 HZ6 HB6 b0 b1 b2 b3 b4 b5 b6 h0 h1 h2 h3 h4 h5 h6
      refine (refOne_c _ _).mono ?_
      rintro e w8 ⟨rfl, rfl⟩
      rw [one_quo]
      generalize fn BinOp.quo be be = d
      obtain ⟨sh, hsh⟩ : ∃ sh, byV be be = sh := ⟨_, rfl⟩
      rw [hsh]
      have HSH := Lib.hid hsh
      clear hsh
      have HR8 := Lib.hid (HR7.out.drewN d)
      have HZ8 := Lib.hid (HZ7.out.drewN d)
      have HB8 := Lib.hid (below_drewN HB7.out d)
      generalize w7.drewN d = w8 at *
      clear HR7 HZ7 HB7
      obtain ⟨⟨b0, b1, b2, b3, b4, b5, b6⟩, _, _, _, _, _, h5, _⟩ := HR8.out.at7
      have HZ9 := Lib.hid (HZ8.out.far (p := ⟨bo, 5, none⟩) (by show s0 ≠ bo; omega) (.float .f64 sh))
      have HB9 := Lib.hid (HB8.out.setCell (p := ⟨bo, 5, none⟩) (by show s0 ≤ bo; omega) (.float .f64 sh))
      obtain ⟨⟨z0, z1, z2, z3, z4, z5, z6⟩, k0, k1, k2, k3, k4, k5, k6⟩ := HZ9.out.at7
      go_wp2_with fail
      have HW := HZ9.out.store7 (.string name) (.int .i64 m) (.int .i64 q) (.float .f64 be) (.float .f64 ra) (.float .f64 sh) (.float .f64 fr)
      have HBW := below_store7 HB9.out (Nat.le_refl s0) (.string name) (.int .i64 m) (.int .i64 q) (.float .f64 be) (.float .f64 ra) (.float .f64 sh) (.float .f64 fr)
      generalize World.setCell _ ⟨s0, 6, none⟩ (Value.float .f64 fr) = W at *
      obtain ⟨⟨y0, y1, y2, y3, y4, y5, y6⟩, _⟩ := HW.at7
      try simp only [Exit.inBlock, Exit.then]
      refine bodyPost_ret (v := .agg #[.string name, .int .i64 m, .int .i64 q, .float .f64 be, .float .f64 ra, .float .f64 sh, .float .f64 fr]) (by simp [results, Try.results19, go_sem, y0, y1, y2, y3, y4, y5, y6]) rfl ?_
      obtain ⟨e1, e2, e3⟩ := HX.out
      refine ⟨?_, by rw [HE0.out]; exact HBW⟩
      rw [HPQ.out]
      show _ = Ending.returned (sumS pre name _).agg
      unfold sumS
      rw [e1, e2, e3, HM.out, HQ.out, HSH.out]
      rfl
set_option maxHeartbeats 4000000 in
set_option maxRecDepth 100000 in
theorem refNamed_c (A : Option Addr) (n c : Nat) (ss : List St) (name : ByteArray) (beats : Nat) (w : World) (h : Ss w A n ss) (hn : n ≤ 1000) :
    Calls Try.prog 19 #[.slice A n c, .string name, .bool false, .float .f64 beats] w fun e w' => e = .returned (sumS (named name ss) name (byV (sumV (valuesV (named name ss) 1)) beats)).agg ∧ Below w.heap.size w w' := by
  obtain ⟨i0, hi, hz0, hz1, hz2⟩ := info_parts infoS
  have HS := Lib.hid h
  clear h
  go_enter Try.func19, Try.ntmps19
  go_wp2_with fail
  have hR0 := Row.new w 28 zeroSum
  have hB0 : Below w.heap.size w (w.alloc (Obj.cells zeroSum.toArray 28)) := (Below.refl _ _).alloc (Nat.le_refl _) _
  change Row (w.alloc (Obj.cells #[.string { data := #[] }, .int .i64 0, .int .i64 0, .float .f64 0, .float .f64 0, .float .f64 0, .float .f64 0] 28)) _ _ _ at hR0
  change Below _ _ (w.alloc (Obj.cells #[.string { data := #[] }, .int .i64 0, .int .i64 0, .float .f64 0, .float .f64 0, .float .f64 0, .float .f64 0] 28)) at hB0
  obtain ⟨w0, hw0⟩ : ∃ w0, w.alloc (Obj.cells #[.string { data := #[] }, .int .i64 0, .int .i64 0, .float .f64 0, .float .f64 0, .float .f64 0, .float .f64 0] 28) = w0 := ⟨_, rfl⟩
  have hsz0 : w0.heap.size = w.heap.size + 1 := by rw [← hw0]; simp
  rw [hw0] at hR0 hB0 ⊢
  have hR1 := Row.new w0 28 [.string name, .int .i64 0, .int .i64 0, .float .f64 0, .float .f64 0, .float .f64 0, .float .f64 0]
  have hR01 := hR0.alloc (Obj.cells #[.string name, .int .i64 0, .int .i64 0, .float .f64 0, .float .f64 0, .float .f64 0, .float .f64 0] 28)
  have hB1 := hB0.alloc hB0.size (Obj.cells #[.string name, .int .i64 0, .int .i64 0, .float .f64 0, .float .f64 0, .float .f64 0, .float .f64 0] 28)
  have hsz1 : (w0.alloc (Obj.cells #[.string name, .int .i64 0, .int .i64 0, .float .f64 0, .float .f64 0, .float .f64 0, .float .f64 0] 28)).heap.size = w0.heap.size + 1 := by simp
  change Row (w0.alloc (Obj.cells #[.string name, .int .i64 0, .int .i64 0, .float .f64 0, .float .f64 0, .float .f64 0, .float .f64 0] 28)) _ _ _ at hR1
  generalize w0.alloc (Obj.cells #[.string name, .int .i64 0, .int .i64 0, .float .f64 0, .float .f64 0, .float .f64 0, .float .f64 0] 28) = w1 at *
  clear hw0 hR0
  obtain ⟨s0, hs0⟩ : ∃ s0, w.heap.size = s0 := ⟨_, rfl⟩
  rw [hs0] at hR01 hsz0 ⊢
  obtain ⟨bo, hbo⟩ : ∃ bo, s0 + 1 = bo := ⟨_, rfl⟩
  rw [hsz0, hbo] at hR1 hsz1
  rw [hbo] at ⊢
  have hs01 : s0 < bo := by omega
  have HE0 := Lib.hid hs0
  have HR01 := Lib.hid hR01
  have HR1 := Lib.hid hR1
  have HB1 : Hid (Below s0 w w1) := Lib.hid (by rw [← hs0]; exact hB1)
  clear hs0 hbo hR01 hR1 hB0 hB1
  go_loopw [9, 11] (fun v i wr => ∃ j : Nat, j ≤ n ∧ i = .int .i64 j ∧ wr.ownsRow (bo + 1) 38 7 v (named name (ss.take j)).length (sts (named name (ss.take j))) ∧ Row wr bo 28 [.string name, .int .i64 ((named name (ss.take j)).length : Nat), .int .i64 (finK (named name (ss.take j)) : Nat), .float .f64 0, .float .f64 0, .float .f64 0, .float .f64 0] ∧ Row wr s0 28 zeroSum ∧ Below s0 w wr ∧ bo + 1 ≤ wr.heap.size) (fun _ i _ => n - (intOf i).toNat)
  case atStart => exact ⟨0, by omega, rfl, World.ownsRow_nil _ _ _ _, HR1.out, HR01.out, HB1.out, by omega⟩
  case round =>
    obtain ⟨j, hj, rfl, hown, hR, hR0, hB, hsz⟩ := hrel
    clear HR1 HR01 HB1
    by_cases hlt : j < n
    · obtain ⟨s, hs⟩ : ∃ s, ss[j]? = some s := ⟨_, List.getElem?_eq_getElem (by rw [HS.out.len]; exact hlt)⟩
      obtain ⟨ad, hA, hcell⟩ := (HS.out.below (by rw [HE0.out]; exact hB)).cs (by rw [sts_len, HS.out.len]; omega)
      obtain ⟨ae, hae⟩ : ∃ ae, ad.add (j * 7) = ae := ⟨_, rfl⟩
      obtain ⟨a0, a1, a2, a3, a4, a5, a6⟩ := st_at hcell hs hae
      have HT := Lib.hid (take_next hs)
      have HGET := Lib.hid hs
      have hpl : (named name (ss.take j)).length ≤ j := Nat.le_trans (named_len _ _) (by rw [List.length_take]; omega)
      have hfl : finK (named name (ss.take j)) ≤ j := Nat.le_trans (finK_le _) hpl
      have HR := Lib.hid hR
      have HR0 := Lib.hid hR0
      have HB := Lib.hid hB
      have HO := Lib.hid hown
      have j0 : (0 : Int) ≤ (j : Int) := by omega
      have d0 : decide ((j : Int) < (n : Int)) = true := decide_eq_true (by omega)
      have hbl : bo < wr.heap.size := by omega
      subst hA
      clear hR hR0 hB hown hcell hs
      by_cases hnm : s.fn = name
      · have hne : (s.fn.toList == name.toList) = true := by rw [toList_beq]; exact decide_eq_true hnm
        have hnx : (named name (ss.take (j + 1))) = (named name (ss.take j)) ++ [s] := by unfold named; rw [HT.out, List.filter_append]; simp [hnm]
        obtain ⟨pre, hpre⟩ : ∃ pre, (named name (ss.take j)) = pre := ⟨_, rfl⟩
        rw [hpre] at HR HO hpl hfl hnx
        have HNX := Lib.hid hnx
        clear hpre HT hnx hnm
        obtain ⟨m, hm⟩ : ∃ m, pre.length = m := ⟨_, rfl⟩
        obtain ⟨q, hq⟩ : ∃ q, finK pre = q := ⟨_, rfl⟩
        rw [hm] at HR HO hpl
        rw [hq] at HR hfl
        have HM := Lib.hid hm
        have HQ := Lib.hid hq
        clear hm hq
        have b1 := HR.out.cell 1
        have HSC := Lib.hid (sts_single s)
        obtain ⟨v0, v1, v2, v3, v4, v5, v6⟩ := s
        go_wp2_with (first
          | (at_builtin; refine wpList_append_own _ rfl _ _ 22 rfl (bo + 1) 38 i0 (.agg #[.int .i64 0, .string ByteArray.empty, .int .i64 0, .int .i64 0, .int .i64 0, .int .i64 0, .bool false]) 7 64 Try.underlying22 hi hz0 hz1 hz2 rfl (by decide) _ m (sts pre) rfl (World.ownsRow.alloc HO.out _) ⟨wr.heap.size, 0, none⟩ 1 1 [.int .i64 v0, .string v1, .int .i64 v2, .int .i64 v3, .int .i64 v4, .int .i64 v5, .bool v6] rfl rfl ?c1 ?c2 ?c3 ?c4 ?c5 ?_)
          | go_in)
        case c2 => exact ⟨rfl, rfl, rfl, rfl, rfl, rfl, rfl⟩
        case c3 => unfold maxLen; omega
        case c4 => omega
        case c5 => omega
        intro v' w4 hown' hgrow _
        have hob : ∀ k, (some k = u9.ownBlock) → bo + 1 ≤ k := fun k hk => (HO.out.lt k hk.symm).1
        have hgr : wr.grownBy w4 u9.ownBlock := (World.grownBy_alloc wr _ _).trans hgrow
        have HR4 : Hid (Row w4 bo 28 [.string name, .int .i64 m, .int .i64 q, .float .f64 0, .float .f64 0, .float .f64 0, .float .f64 0]) := Lib.hid ((hgr.block bo HR.out.lt (fun e => by have := hob bo e; omega)).trans HR.out)
        have HZ4 : Hid (Row w4 s0 28 zeroSum) := Lib.hid ((hgr.block s0 HR0.out.lt (fun e => by have := hob s0 e; omega)).trans HR0.out)
        have HB4 : Hid (Below s0 w w4) := Lib.hid (HB.out.grown hgr (by omega) (fun k e => by have := hob k e.symm; omega))
        have hsz4 : bo + 1 ≤ w4.heap.size := Nat.le_trans hsz hgr.size
        have c4 := (HS.out.below (by rw [HE0.out]; exact HB4.out)).cs (by rw [sts_len, HS.out.len]; omega)
        obtain ⟨ad', hA', hcell4⟩ := c4
        cases hA'
        have a64 := (st_at hcell4 (HGET.out) hae).2.2.2.2.2.2
        have HO4 := Lib.hid hown'
        have b1 := HR4.out.cell 1
        have b2 := HR4.out.cell 2
        have f1 := HR4.out.frozen 1
        have f2 := HR4.out.frozen 2
        simp only [List.getElem?_cons_zero, List.getElem?_cons_succ] at b1 b2
        clear hown' hgrow hgr hob hcell4
        cases v6 with
        | true =>
          go_wp2_with fail
          go_roundw
          case rel =>
            refine ⟨j + 1, by omega, by go_num, ?_, ?_, HZ4.out.far (by show s0 ≠ bo; omega) _ |>.far (by show s0 ≠ bo; omega) _, (HB4.out.setCell (p := ⟨bo, 1, none⟩) (by show s0 ≤ bo; omega) _).setCell (p := ⟨bo, 2, none⟩) (by show s0 ≤ bo; omega) _, by simpa [World.setCell] using hsz4⟩
            · rw [HNX.out, List.length_append, sts_append, HM.out]
              exact own_set (own_set (by rw [HSC.out]; exact HO4.out) (by omega)) (by omega)
            · rw [HNX.out, List.length_append, finK_snoc, HM.out, HQ.out]
              exact (HR4.out.set 1 _).set 2 _
          case measure => simp [intOf] <;> omega
        | false =>
          go_wp2_with fail
          go_roundw
          case rel =>
            refine ⟨j + 1, by omega, by go_num, ?_, ?_, HZ4.out.far (by show s0 ≠ bo; omega) _, HB4.out.setCell (p := ⟨bo, 1, none⟩) (by show s0 ≤ bo; omega) _, by simpa [World.setCell] using hsz4⟩
            · rw [HNX.out, List.length_append, sts_append, HM.out]
              exact own_set (by rw [HSC.out]; exact HO4.out) (by omega)
            · rw [HNX.out, List.length_append, finK_snoc, HM.out, HQ.out]
              exact HR4.out.set 1 _
          case measure => simp [intOf] <;> omega
      · have hne : (s.fn.toList == name.toList) = false := by rw [toList_beq]; exact decide_eq_false hnm
        have HNX : Hid (named name (ss.take (j + 1)) = named name (ss.take j)) := Lib.hid (by unfold named; rw [HT.out, List.filter_append]; simp [hnm])
        obtain ⟨v0, v1, v2, v3, v4, v5, v6⟩ := s
        go_wp2_with fail
        go_roundw
        case rel => exact ⟨j + 1, by omega, by go_num, by rw [HNX.out]; exact HO.out, by rw [HNX.out]; exact HR.out, HR0.out, HB.out, hsz⟩
        case measure => simp [intOf] <;> omega
    · have hjn : j = n := by omega
      have hall : ss.take j = ss := List.take_of_length_le (by rw [HS.out.len]; omega)
      rw [hall] at hown hR
      have d0 : decide ((j : Int) < (n : Int)) = false := decide_eq_false (by omega)
      have hpl : (named name ss).length ≤ n := Nat.le_trans (named_len _ _) (by rw [HS.out.len]; omega)
      obtain ⟨pre, hpre⟩ : ∃ pre, (named name ss) = pre := ⟨_, rfl⟩
      rw [hpre] at hown hR hpl
      have HPQ := Lib.hid hpre
      obtain ⟨m, hm⟩ : ∃ m, pre.length = m := ⟨_, rfl⟩
      rw [hm] at hown hR hpl
      obtain ⟨q, hq⟩ : ∃ q, finK pre = q := ⟨_, rfl⟩
      rw [hq] at hR
      have HM := Lib.hid hm
      have HQ := Lib.hid hq
      obtain ⟨A', c', rfl, hSS⟩ := owned_ss hown
      have HO := Lib.hid hown
      have HR := Lib.hid hR
      have HR0 := Lib.hid hR0
      have HB := Lib.hid hB
      have HSS := Lib.hid hSS
      clear hown hR hR0 hB hSS hpre hm hq hall
      go_wp2_with fail
      refine (refValues_c A' m c' pre 1 wr HSS.out.cs HM.out (by omega)).mono ?_
      rintro e w1 ⟨A1, c1, rfl, hF1, hA1, hb1⟩
      have hR1 := HR.out.grown hb1
      have hO1 := own_below HO.out hb1
      have HF1 := Lib.hid hF1
      have HA1 : Hid (∀ ad, A1 = some ad → bo < ad.block) := Lib.hid (fun ad e => by have := (hA1 ad e).1; omega)
      have hZ1 := HR0.out.grown hb1
      have HB1 : Hid (Below s0 w w1) := Lib.hid (HB.out.trans (hb1.mono (by omega)))
      have hs1 : bo + 1 ≤ w1.heap.size := Nat.le_trans hsz hb1.size
      have HR1 := Lib.hid hR1
      have HO1 := Lib.hid hO1
      have HZ1 := Lib.hid hZ1
      obtain ⟨be, hbe⟩ : ∃ be, sumV (valuesV pre 1) = be := ⟨_, rfl⟩
      obtain ⟨ra, hra⟩ : ∃ ra, meanV (valuesV pre 5) = ra := ⟨_, rfl⟩
      obtain ⟨fr, hfr⟩ : ∃ fr, fairV (valuesV pre 1) = fr := ⟨_, rfl⟩
      have HX := Lib.hid (And.intro hbe (And.intro hra hfr))
      clear hF1 hA1 hb1 hR1 hO1 hZ1 HO HR HR0 HB HSS
      go_wp2_with fail
      refine (refSum_c A1 m c1 (valuesV pre 1) w1 HF1.out).mono ?_
      rintro e w2 ⟨rfl, d2, rfl⟩
      rw [hbe]
      have y3 := (HR1.out.drewN d2).cell 3
      have g3 := (HR1.out.drewN d2).frozen 3
      simp only [List.getElem?_cons_zero, List.getElem?_cons_succ] at y3
      have HR3 := Lib.hid ((HR1.out.drewN d2).set 3 (.float .f64 be))
      have HZ3 := Lib.hid ((HZ1.out.drewN d2).far (p := ⟨bo, 3, none⟩) (by show s0 ≠ bo; omega) (.float .f64 be))
      have HB3 := Lib.hid ((below_drewN HB1.out d2).setCell (p := ⟨bo, 3, none⟩) (by show s0 ≤ bo; omega) (.float .f64 be))
      have HO3 := Lib.hid (own_set (o := 3) (x := .float .f64 be) (own_below HO1.out (below_drewN (Below.refl _ w1) d2)) (show bo < bo + 1 by omega))
      have HF3 := Lib.hid (Fs.set_far (o := 3) (v := .float .f64 be) (HF1.out.below (below_drewN (Below.refl _ w1) d2)) HA1.out)
      have hs3 : bo + 1 ≤ ((w1.drewN d2).setCell ⟨bo, 3, none⟩ (.float .f64 be)).heap.size := by simpa [World.setCell] using hs1
      clear HR1 HZ1 HB1 HO1 HF1
      go_wp2_with fail
      generalize (w1.drewN d2).setCell ⟨bo, 3, none⟩ (Value.float .f64 be) = w3 at *
      refine (refValues_c A' m c' pre 5 w3 (owned_ss' HO3.out).cs HM.out (by omega)).mono ?_
      rintro e w4 ⟨A4, c4, rfl, hF4, _, hb4⟩
      have HR4 := Lib.hid (HR3.out.grown hb4)
      have HZ4 := Lib.hid (HZ3.out.grown hb4)
      have HB4 : Hid (Below s0 w w4) := Lib.hid (HB3.out.trans (hb4.mono (by omega)))
      have HF4 := Lib.hid (HF3.out.below hb4)
      have HG4 := Lib.hid hF4
      clear hF4 hb4 HR3 HZ3 HB3 HO3 HF3
      go_wp2_with fail
      refine (refMean_c A4 m c4 (valuesV pre 5) w4 HG4.out).mono ?_
      rintro e w5 ⟨rfl, d5, rfl⟩
      rw [hra]
      have y4 := (HR4.out.drewN d5).cell 4
      have g4 := (HR4.out.drewN d5).frozen 4
      simp only [List.set_cons_zero, List.set_cons_succ, List.getElem?_cons_zero, List.getElem?_cons_succ] at y4
      have HR5 := Lib.hid ((HR4.out.drewN d5).set 4 (.float .f64 ra))
      have HZ5 := Lib.hid ((HZ4.out.drewN d5).far (p := ⟨bo, 4, none⟩) (by show s0 ≠ bo; omega) (.float .f64 ra))
      have HB5 := Lib.hid ((below_drewN HB4.out d5).setCell (p := ⟨bo, 4, none⟩) (by show s0 ≤ bo; omega) (.float .f64 ra))
      have HF5 := Lib.hid (Fs.set_far (o := 4) (v := .float .f64 ra) (HF4.out.below (below_drewN (Below.refl _ w4) d5)) HA1.out)
      clear HR4 HZ4 HB4 HF4 HG4
      go_wp2_with fail
      generalize (w4.drewN d5).setCell ⟨bo, 4, none⟩ (Value.float .f64 ra) = w5 at *
      refine (refFair_c A1 m c1 (valuesV pre 1) w5 HF5.out (by omega)).mono ?_
      rintro e w6 ⟨rfl, hb6⟩
      rw [hfr]
      have HR6 := Lib.hid (HR5.out.grown hb6)
      have HZ6 := Lib.hid (HZ5.out.grown hb6)
      have HB6 : Hid (Below s0 w w6) := Lib.hid (HB5.out.trans (hb6.mono (by have := HZ5.out.lt; omega)))
      clear hb6 HR5 HZ5 HB5 HF5
      have HR6 : Hid (Row w6 bo 28 [.string name, .int .i64 m, .int .i64 q, .float .f64 be, .float .f64 ra, .float .f64 0, .float .f64 0]) := Lib.hid HR6.out
      obtain ⟨⟨b0, b1, b2, b3, b4, b5, b6⟩, h0, h1, h2, h3, h4, h5, h6⟩ := HR6.out.at7
      have HR7 : Hid (Row (w6.setCell ⟨bo, 6, none⟩ (.float .f64 fr)) bo 28 [.string name, .int .i64 m, .int .i64 q, .float .f64 be, .float .f64 ra, .float .f64 0, .float .f64 fr]) := Lib.hid (HR6.out.set 6 (.float .f64 fr))
      have HZ7 := Lib.hid (HZ6.out.far (p := ⟨bo, 6, none⟩) (by show s0 ≠ bo; omega) (.float .f64 fr))
      have HB7 := Lib.hid (HB6.out.setCell (p := ⟨bo, 6, none⟩) (by show s0 ≤ bo; omega) (.float .f64 fr))
      go_wp2_with fail
      generalize w6.setCell ⟨bo, 6, none⟩ (Value.float .f64 fr) = w7 at *
      clear HR6 HZ6 HB6 b0 b1 b2 b3 b4 b5 b6 h0 h1 h2 h3 h4 h5 h6
      refine (refOne_c _ _).mono ?_
      rintro e w8 ⟨rfl, rfl⟩
      rw [one_quo]
      generalize fn BinOp.quo be beats = d
      obtain ⟨sh, hsh⟩ : ∃ sh, byV be beats = sh := ⟨_, rfl⟩
      rw [hsh]
      have HSH := Lib.hid hsh
      clear hsh
      have HR8 := Lib.hid (HR7.out.drewN d)
      have HZ8 := Lib.hid (HZ7.out.drewN d)
      have HB8 := Lib.hid (below_drewN HB7.out d)
      generalize w7.drewN d = w8 at *
      clear HR7 HZ7 HB7
      obtain ⟨⟨b0, b1, b2, b3, b4, b5, b6⟩, _, _, _, _, _, h5, _⟩ := HR8.out.at7
      have HZ9 := Lib.hid (HZ8.out.far (p := ⟨bo, 5, none⟩) (by show s0 ≠ bo; omega) (.float .f64 sh))
      have HB9 := Lib.hid (HB8.out.setCell (p := ⟨bo, 5, none⟩) (by show s0 ≤ bo; omega) (.float .f64 sh))
      obtain ⟨⟨z0, z1, z2, z3, z4, z5, z6⟩, k0, k1, k2, k3, k4, k5, k6⟩ := HZ9.out.at7
      go_wp2_with fail
      have HW := HZ9.out.store7 (.string name) (.int .i64 m) (.int .i64 q) (.float .f64 be) (.float .f64 ra) (.float .f64 sh) (.float .f64 fr)
      have HBW := below_store7 HB9.out (Nat.le_refl s0) (.string name) (.int .i64 m) (.int .i64 q) (.float .f64 be) (.float .f64 ra) (.float .f64 sh) (.float .f64 fr)
      generalize World.setCell _ ⟨s0, 6, none⟩ (Value.float .f64 fr) = W at *
      obtain ⟨⟨y0, y1, y2, y3, y4, y5, y6⟩, _⟩ := HW.at7
      try simp only [Exit.inBlock, Exit.then]
      refine bodyPost_ret (v := .agg #[.string name, .int .i64 m, .int .i64 q, .float .f64 be, .float .f64 ra, .float .f64 sh, .float .f64 fr]) (by simp [results, Try.results19, go_sem, y0, y1, y2, y3, y4, y5, y6]) rfl ?_
      obtain ⟨e1, e2, e3⟩ := HX.out
      refine ⟨?_, by rw [HE0.out]; exact HBW⟩
      rw [HPQ.out]
      show _ = Ending.returned (sumS pre name _).agg
      unfold sumS
      rw [e1, e2, e3, HM.out, HQ.out, HSH.out]
      rfl
end Go.Proofs.Ytfiimmbpfdpjfaa
