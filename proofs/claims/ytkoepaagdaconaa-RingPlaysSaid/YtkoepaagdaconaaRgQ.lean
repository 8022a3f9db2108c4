/-
  The walk of RingPlays: any size, any script, step by step.
-/
import Derived.Test.YtkoepaagdaconaaRgO
namespace Go.Proofs.Ytkoepaagdaconaa
open Go.RowKit
set_option linter.unusedSimpArgs false

/-- a script in memory -/
def opCells : List (Int × Int) → List Value
  | [] => []
  | p :: ps => .int .i64 p.1 :: .int .i64 p.2 :: opCells ps
theorem opCells_len (ps : List (Int × Int)) : (opCells ps).length = ps.length * 2 := by
  induction ps with
  | nil => rfl
  | cons p ps ih => simp only [opCells, List.length_cons, ih]; omega
theorem opCells_get : ∀ (ps : List (Int × Int)) (i : Nat) (p : Int × Int), ps[i]? = some p → (opCells ps)[i * 2]? = some (.int .i64 p.1) ∧ (opCells ps)[i * 2 + 1]? = some (.int .i64 p.2)
  | [], i, p, h => by simp at h
  | x :: ps, 0, p, h => by simp at h; subst h; exact ⟨rfl, rfl⟩
  | x :: ps, i + 1, p, h => by
    rw [show (i + 1) * 2 = i * 2 + 2 by omega]
    exact opCells_get ps i p h
/-- a script as an argument -/
structure Ops (w : World) (A : Option Addr) (n : Nat) (ps : List (Int × Int)) : Prop where
  len : ps.length = n
  cs : 0 < n → ∃ ad, A = some ad ∧ ∀ j, j < n * 2 → w.cell? (ad.add j) = (opCells ps)[j]?

def Both (w : World) (b g P n : Nat) (all : List Int) (out : Nat) : Prop := Ring w 64 3 b g n (ints (all.drop out)) ∧ Ref w P all out n
theorem Both.but {S : Nat → Prop} {w w' : World} {b g P n : Nat} {all : List Int} {out : Nat} (h : Both w b g P n all out) (hb : But S w w') (h1 : ¬ S b ∧ ¬ S g) (h2 : ∀ k, P ≤ k → ¬ S k) : Both w' b g P n all out := ⟨h.1.but hb h1.1 h1.2, h.2.but hb h2⟩

set_option maxHeartbeats 8000000 in
set_option maxRecDepth 100000 in
theorem ringPlays_walk (size : Int) (A : Option Addr) (k c : Nat) (ps : List (Int × Int)) (w : World) (hsz : (Lit.int .i64 size).wf = true) (hx : Ops w A k ps) :
    Calls Try.prog 4 #[.int .i64 size, .slice A k c] w fun e w' => e = .returned (.bool true) ∧ Below w.heap.size w w' := by
  have hsz := int_wf hsz
  have HX := Lib.hid hx
  clear hx
  by_cases hmay : size < 0 ∨ 100 < size
  · have CN := Lib.hid (fun w => RI.newBad_c size hmay w)
    have hx : size < 0 ∨ (0 ≤ size ∧ 100 < size) := by omega
    clear hmay
    rcases hx with hx | ⟨hx, hx2⟩
    all_goals (
      go_enter Try.func4, Try.ntmps4
      go_wp2_with (first
        | (go_at_call 7; refine (awake12_c _).mono ?_; rintro e w1 ⟨rfl, hb⟩; have HB1 := Lib.hid hb; clear hb)
        | (go_at_call 13; refine (CN.out _).mono ?_; rintro e w2 ⟨rfl, rfl⟩))
      go_ret
      exact ⟨rfl, HB1.out⟩)
  · obtain ⟨n, rfl⟩ : ∃ n : Nat, size = (n : Int) := ⟨size.toNat, by omega⟩
    have hn : n ≤ 100 := by omega
    have h0 : (0 : Int) ≤ (n : Int) := by omega
    have h1 : (n : Int) ≤ 100 := by omega
    clear hmay
    go_enter Try.func4, Try.ntmps4
    go_wp2_with fail
    refine (awake12_c _).mono ?_
    rintro e w1 ⟨rfl, hb1⟩
    have HB1 := Lib.hid hb1
    clear hb1
    go_wp2_with fail
    refine (RI.new_c n hn w1).mono ?_
    rintro e w2 ⟨b, g, rfl, hb, hg, hR, hB⟩
    have hB2 : Below w.heap.size w w2 := HB1.out.trans (hB.mono HB1.out.size)
    have hw1 := HB1.out.size
    have hbg : w.heap.size ≤ b ∧ w.heap.size ≤ g ∧ b < w2.heap.size ∧ g < w2.heap.size := by
      obtain ⟨f, vs, h⟩ := hR
      exact ⟨by omega, by omega, h.obj.lt, h.room.lt⟩
    have HBG := Lib.hid hbg
    have HB2 := Lib.hid hB2
    have HR := Lib.hid hR
    clear hb hg hR hB hB2 hbg hw1 HB1
    go_wp2_with fail
    have hP := Row.new w2 40 [.slice none 0 0, .int .i64 0, .int .i64 n]
    have hbu := (But.refl (fun _ => False) w2).alloc (.cells #[.slice none 0 0, .int .i64 0, .int .i64 n] 40)
    change Row (w2.alloc (.cells #[.slice none 0 0, .int .i64 0, .int .i64 n] 40)) _ _ _ at hP
    have hB3 : Below w.heap.size w (w2.alloc (.cells #[.slice none 0 0, .int .i64 0, .int .i64 n] 40)) := HB2.out.alloc HB2.out.size _
    generalize w2.alloc (.cells #[.slice none 0 0, .int .i64 0, .int .i64 n] 40) = w3 at *
    obtain ⟨P, hPP⟩ : ∃ P, w2.heap.size = P := ⟨_, rfl⟩
    have HBG := Lib.hid (hPP ▸ HBG.out)
    rw [hPP] at hP ⊢
    have HBo : Hid (Both w3 b g P n [] 0) := Lib.hid ⟨HR.out.but hbu (fun h => h) (fun h => h), none, 0, hP, World.ownsRow_nil _ _ _ _, Nat.le_refl _, by simp⟩
    have HB3 := Lib.hid hB3
    clear hP hbu hB3 hPP HB2 HR
    go_loopw [10] (fun i wr => ∃ (j : Nat) (all : List Int) (out : Nat), j ≤ 5000 ∧ i = .int .i64 j ∧ all.length ≤ j ∧ Both wr b g P n all out ∧ Below w.heap.size w wr) (fun i _ => 5000 - (intOf i).toNat)
    case atStart => exact ⟨0, [], 0, by omega, rfl, Nat.le_refl _, HBo.out, HB3.out⟩
    case round =>
      obtain ⟨j, all, out, hj, rfl, hall, hBo, hB⟩ := hrel
      by_cases hc : j < k ∧ j < 5000
      · obtain ⟨hlt, hlt2⟩ := hc
        obtain ⟨p, hp⟩ : ∃ p, ps[j]? = some p := ⟨_, List.getElem?_eq_getElem (by rw [HX.out.len]; exact hlt)⟩
        obtain ⟨ad, hA, hcell⟩ := HX.out.cs (by omega)
        obtain ⟨ae, hae⟩ : ∃ ae, ad.add (j * 2) = ae := ⟨_, rfl⟩
        have k0 := hcell (j * 2) (by omega)
        have k1 := hcell (j * 2 + 1) (by omega)
        rw [(opCells_get ps j p hp).1, hae] at k0
        rw [(opCells_get ps j p hp).2, ← addr_add, hae] at k1
        have a0 : wr.cell? ae = some (.int .i64 p.1) := (hB.cell (cell_lt k0)).trans k0
        have a1 : wr.cell? ⟨ae.block, ae.off + 1, none⟩ = some (.int .i64 p.2) := by
          have := (hB.cell (cell_lt k1)).trans k1
          simp [Addr.add] at this
          exact this
        obtain ⟨kd, x⟩ := p
        have j0 : (0 : Int) ≤ (j : Int) := by omega
        have j1 : (j : Int) < (k : Int) := by omega
        have j2 : (j : Int) < 5000 := by omega
        have HBo := Lib.hid hBo
        have HB := Lib.hid hB
        subst hA
        clear k0 k1 hcell hp hBo hB
        dsimp only at a0 a1
        have hPw : P < wr.heap.size := by
          obtain ⟨A', c', h⟩ := HBo.out.2
          exact h.obj.lt
        have hnn := HBG.out
        have hr4 := Row.new wr 42 [.int .i64 kd, .int .i64 x]
        change Row (wr.alloc (.cells #[.int .i64 kd, .int .i64 x] 42)) _ _ _ at hr4
        have HR4 := Lib.hid hr4
        have HBo4 := Lib.hid (HBo.out.but ((But.refl (fun _ => False) wr).alloc (.cells #[.int .i64 kd, .int .i64 x] 42)) ⟨fun h => h, fun h => h⟩ (fun _ _ h => h))
        have HB4 := Lib.hid (HB.out.alloc HB.out.size (.cells #[.int .i64 kd, .int .i64 x] 42))
        have hol := HBo.out.2
        have hole : out ≤ all.length := by
          obtain ⟨A', c', h⟩ := hol
          exact h.le
        have hqn : all.length - out ≤ n := by
          have := HBo.out.1.few
          rwa [ints_len, List.length_drop] at this
        obtain ⟨ob, hob⟩ : ∃ ob, wr.heap.size = ob := ⟨_, rfl⟩
        have hs4 : (wr.alloc (.cells #[.int .i64 kd, .int .i64 x] 42)).heap.size = ob + 1 := by show (wr.heap.push _).size = _; rw [Array.size_push, hob]
        have HS4 := Lib.hid hs4
        rw [hob] at HR4 hPw
        have HOB := Lib.hid hob
        clear hr4 hol HBo HB hob hs4
        have hkd : kd = 1 ∨ kd = 2 ∨ kd = 3 ∨ kd = 4 ∨ (kd ≠ 1 ∧ kd ≠ 2 ∧ kd ≠ 3 ∧ kd ≠ 4) := by omega
        rcases hkd with rfl | rfl | rfl | rfl | hkd
        · by_cases hq : all.length - out < n
          · go_wp2_with fail
            generalize wr.alloc (.cells #[.int .i64 1, .int .i64 x] 42) = w4 at *
            rw [HOB.out]
            clear a0 a1
            refine (RI.put_c b g n _ x w4 HBo4.out.1 hn (by rw [ints_len, List.length_drop]; exact hq)).mono ?_
            rintro e w5 ⟨rfl, hR5, hb5⟩
            have HF5 := Lib.hid (HBo4.out.2.but hb5 (fun k hk h => by rcases h with rfl | rfl <;> omega))
            have HR5 := Lib.hid hR5
            have r5 := Lib.hid (hb5.row HR4.out (by omega))
            have a1' : w5.cell? ⟨ob, 1, none⟩ = some (.int .i64 x) := r5.out.cell 1
            have HB5 : Hid (Below w.heap.size w w5) := Lib.hid (hb5.below HB4.out HB4.out.size (fun i hi => by rcases hi with rfl | rfl <;> omega))
            clear hR5 hb5
            go_wp2_with fail
            refine (refPut_c P all out n x w5 HF5.out hq (by omega) (by omega)).mono ?_
            rintro e w6 ⟨rfl, hF6, hb6⟩
            have H6 : Hid (Both w6 b g P n (all ++ [x]) out) := Lib.hid ⟨by rw [List.drop_append_of_le_length hole, ← ints_snoc]; exact HR5.out.but hb6 (by omega) (by omega), hF6⟩
            have HB6 : Hid (Below w.heap.size w w6) := Lib.hid (hb6.below HB5.out HB5.out.size (fun i hi => by omega))
            clear hF6 hb6 a1'
            have hl6 : (ints ((all ++ [x]).drop out)).length = (all ++ [x]).length - out := by rw [ints_len, List.length_drop]
            have CL1 := Lib.hid (RI.len_c b g n _ w6 H6.out.1)
            rw [hl6] at CL1
            have CL2 := Lib.hid (refLen_c P (all ++ [x]) out n w6 H6.out.2)
            have CC := Lib.hid (fun d => RI.cap_c b g n _ (w6.drewN d) (H6.out.1.drewN d))
            clear hl6
            generalize (((all ++ [x]).length - out : Nat) : Int) = lq at *
            go_wp2_with (first
              | (go_at_call 21; refine CL1.out.mono ?_; rintro e w7 ⟨rfl, rfl⟩)
              | (go_at_call 22; refine CL2.out.mono ?_; rintro e w7 ⟨rfl, d7, rfl⟩)
              | (go_at_call 23; refine (CC.out _).mono ?_; rintro e w7 ⟨rfl, rfl⟩))
            go_roundw
            case rel => exact ⟨j + 1, (all ++ [x]), out, by omega, by go_num, (by rw [List.length_append, List.length_singleton]; omega), H6.out.but ((But.refl (fun _ => False) w6).drewN _) ⟨fun h => h, fun h => h⟩ (fun _ _ h => h), below_drewN HB6.out _⟩
            case measure => simp [intOf]; omega
          · go_wp2_with fail
            generalize wr.alloc (.cells #[.int .i64 1, .int .i64 x] 42) = w4 at *
            rw [HOB.out]
            clear a0 a1
            refine (RI.putFull_c b g n _ x w4 HBo4.out.1 (by rw [ints_len, List.length_drop]; omega)).mono ?_
            rintro e w5 ⟨rfl, d5, rfl⟩
            have hb5 : But (fun k => k = b ∨ k = g) w4 (w4.drewN d5) := (But.refl _ w4).drewN d5
            have H5 := Lib.hid (HBo4.out.but ((But.refl (fun _ => False) w4).drewN d5) ⟨fun h => h, fun h => h⟩ (fun _ _ h => h))
            generalize w4.drewN d5 = w5 at *
            have r5 := Lib.hid (hb5.row HR4.out (by omega))
            have a1' : w5.cell? ⟨ob, 1, none⟩ = some (.int .i64 x) := r5.out.cell 1
            have HB5 : Hid (Below w.heap.size w w5) := Lib.hid (hb5.below HB4.out HB4.out.size (fun i hi => by rcases hi with rfl | rfl <;> omega))
            clear hb5
            go_wp2_with fail
            refine (refPutFull_c P all out n x w5 H5.out.2 (by omega)).mono ?_
            rintro e w6 ⟨rfl, d6, rfl⟩
            have H6 := Lib.hid (H5.out.but ((But.refl (fun _ => False) w5).drewN d6) ⟨fun h => h, fun h => h⟩ (fun _ _ h => h))
            have HB6 : Hid (Below w.heap.size w (w5.drewN d6)) := Lib.hid (below_drewN HB5.out d6)
            clear a1'
            generalize w5.drewN d6 = w6 at *
            have hl6 : (ints (all.drop out)).length = all.length - out := by rw [ints_len, List.length_drop]
            have CL1 := Lib.hid (RI.len_c b g n _ w6 H6.out.1)
            rw [hl6] at CL1
            have CL2 := Lib.hid (refLen_c P all out n w6 H6.out.2)
            have CC := Lib.hid (fun d => RI.cap_c b g n _ (w6.drewN d) (H6.out.1.drewN d))
            clear hl6
            generalize ((all.length - out : Nat) : Int) = lq at *
            go_wp2_with (first
              | (go_at_call 21; refine CL1.out.mono ?_; rintro e w7 ⟨rfl, rfl⟩)
              | (go_at_call 22; refine CL2.out.mono ?_; rintro e w7 ⟨rfl, d7, rfl⟩)
              | (go_at_call 23; refine (CC.out _).mono ?_; rintro e w7 ⟨rfl, rfl⟩))
            go_roundw
            case rel => exact ⟨j + 1, all, out, by omega, by go_num, (by omega), H6.out.but ((But.refl (fun _ => False) w6).drewN _) ⟨fun h => h, fun h => h⟩ (fun _ _ h => h), below_drewN HB6.out _⟩
            case measure => simp [intOf]; omega
        · by_cases hq : out < all.length
          · go_wp2_with fail
            generalize wr.alloc (.cells #[.int .i64 2, .int .i64 x] 42) = w4 at *
            rw [HOB.out]
            clear a0 a1
            have hdr : all.drop out = all.getD out 0 :: all.drop (out + 1) := by rw [List.drop_eq_getElem_cons hq, List.getD_eq_getElem?_getD, List.getElem?_eq_getElem hq]; rfl
            have hR4' := HBo4.out.1
            rw [hdr] at hR4'
            refine (RI.take_c b g n _ _ w4 hR4' hn).mono ?_
            rintro e w5 ⟨rfl, hR5, hb5⟩
            have HF5 := Lib.hid (HBo4.out.2.but hb5 (fun k hk h => by rcases h with rfl | rfl <;> omega))
            have HR5 := Lib.hid hR5
            have r5 := Lib.hid (hb5.row HR4.out (by omega))
            have a1' : w5.cell? ⟨ob, 1, none⟩ = some (.int .i64 x) := r5.out.cell 1
            have HB5 : Hid (Below w.heap.size w w5) := Lib.hid (hb5.below HB4.out HB4.out.size (fun i hi => by rcases hi with rfl | rfl <;> omega))
            have CT := Lib.hid (refTake_c P all out n w5 HF5.out hq)
            obtain ⟨y, hy⟩ : ∃ y, all.getD out 0 = y := ⟨_, rfl⟩
            rw [hy] at CT ⊢
            clear hR5 hb5 hdr hR4' hy
            go_wp2_with fail
            refine CT.out.mono ?_
            rintro e w6 ⟨rfl, hF6, hb6⟩
            have H6 : Hid (Both w6 b g P n all (out + 1)) := Lib.hid ⟨HR5.out.but hb6 (by omega) (by omega), hF6⟩
            have HB6 : Hid (Below w.heap.size w w6) := Lib.hid (hb6.below HB5.out HB5.out.size (fun i hi => by omega))
            clear hF6 hb6 a1'
            have hl6 : (ints (all.drop (out + 1))).length = all.length - (out + 1) := by rw [ints_len, List.length_drop]
            have CL1 := Lib.hid (RI.len_c b g n _ w6 H6.out.1)
            rw [hl6] at CL1
            have CL2 := Lib.hid (refLen_c P all (out + 1) n w6 H6.out.2)
            have CC := Lib.hid (fun d => RI.cap_c b g n _ (w6.drewN d) (H6.out.1.drewN d))
            clear hl6
            generalize ((all.length - (out + 1) : Nat) : Int) = lq at *
            go_wp2_with (first
              | (go_at_call 21; refine CL1.out.mono ?_; rintro e w7 ⟨rfl, rfl⟩)
              | (go_at_call 22; refine CL2.out.mono ?_; rintro e w7 ⟨rfl, d7, rfl⟩)
              | (go_at_call 23; refine (CC.out _).mono ?_; rintro e w7 ⟨rfl, rfl⟩))
            go_roundw
            case rel => exact ⟨j + 1, all, (out + 1), by omega, by go_num, (by omega), H6.out.but ((But.refl (fun _ => False) w6).drewN _) ⟨fun h => h, fun h => h⟩ (fun _ _ h => h), below_drewN HB6.out _⟩
            case measure => simp [intOf]; omega
          · go_wp2_with fail
            generalize wr.alloc (.cells #[.int .i64 2, .int .i64 x] 42) = w4 at *
            rw [HOB.out]
            clear a0 a1
            have hR4' := HBo4.out.1
            rw [List.drop_of_length_le (by omega)] at hR4'
            refine (RI.takeEmpty_c b g n w4 hR4').mono ?_
            rintro e w5 ⟨rfl, rfl⟩
            clear hR4'
            go_wp2_with fail
            refine (refTakeEmpty_c P all out n w4 HBo4.out.2 (by omega)).mono ?_
            rintro e w6 ⟨rfl, d6, rfl⟩
            have H6 := Lib.hid (HBo4.out.but ((But.refl (fun _ => False) w4).drewN d6) ⟨fun h => h, fun h => h⟩ (fun _ _ h => h))
            have HB6 : Hid (Below w.heap.size w (w4.drewN d6)) := Lib.hid (below_drewN HB4.out d6)
            generalize w4.drewN d6 = w6 at *
            have hl6 : (ints (all.drop out)).length = all.length - out := by rw [ints_len, List.length_drop]
            have CL1 := Lib.hid (RI.len_c b g n _ w6 H6.out.1)
            rw [hl6] at CL1
            have CL2 := Lib.hid (refLen_c P all out n w6 H6.out.2)
            have CC := Lib.hid (fun d => RI.cap_c b g n _ (w6.drewN d) (H6.out.1.drewN d))
            clear hl6
            generalize ((all.length - out : Nat) : Int) = lq at *
            go_wp2_with (first
              | (go_at_call 21; refine CL1.out.mono ?_; rintro e w7 ⟨rfl, rfl⟩)
              | (go_at_call 22; refine CL2.out.mono ?_; rintro e w7 ⟨rfl, d7, rfl⟩)
              | (go_at_call 23; refine (CC.out _).mono ?_; rintro e w7 ⟨rfl, rfl⟩))
            go_roundw
            case rel => exact ⟨j + 1, all, out, by omega, by go_num, (by omega), H6.out.but ((But.refl (fun _ => False) w6).drewN _) ⟨fun h => h, fun h => h⟩ (fun _ _ h => h), below_drewN HB6.out _⟩
            case measure => simp [intOf]; omega
        · by_cases hq : x < 0 ∨ ((all.length - out : Nat) : Int) ≤ x
          · go_wp2_with fail
            generalize wr.alloc (.cells #[.int .i64 3, .int .i64 x] 42) = w4 at *
            rw [HOB.out]
            clear a0 a1
            refine (RI.atBad_c b g n _ x w4 HBo4.out.1 (by rw [ints_len, List.length_drop]; exact hq)).mono ?_
            rintro e w5 ⟨rfl, rfl⟩
            have hb5 : But (fun k => k = b ∨ k = g) w4 w4 := But.refl _ w4
            have H5 := HBo4
            have r5 := Lib.hid (hb5.row HR4.out (by omega))
            have a1' : w4.cell? ⟨ob, 1, none⟩ = some (.int .i64 x) := r5.out.cell 1
            have HB5 : Hid (Below w.heap.size w w4) := Lib.hid (hb5.below HB4.out HB4.out.size (fun i hi => by rcases hi with rfl | rfl <;> omega))
            clear hb5
            have CT := Lib.hid (refAtBad_c P all out n x w4 H5.out.2 hq)
            clear hq
            go_wp2_with fail
            refine CT.out.mono ?_
            rintro e w6 ⟨rfl, d6, rfl⟩
            have H6 := Lib.hid (H5.out.but ((But.refl (fun _ => False) w4).drewN d6) ⟨fun h => h, fun h => h⟩ (fun _ _ h => h))
            have HB6 : Hid (Below w.heap.size w (w4.drewN d6)) := Lib.hid (below_drewN HB5.out d6)
            clear a1'
            generalize w4.drewN d6 = w6 at *
            have hl6 : (ints (all.drop out)).length = all.length - out := by rw [ints_len, List.length_drop]
            have CL1 := Lib.hid (RI.len_c b g n _ w6 H6.out.1)
            rw [hl6] at CL1
            have CL2 := Lib.hid (refLen_c P all out n w6 H6.out.2)
            have CC := Lib.hid (fun d => RI.cap_c b g n _ (w6.drewN d) (H6.out.1.drewN d))
            clear hl6
            generalize ((all.length - out : Nat) : Int) = lq at *
            go_wp2_with (first
              | (go_at_call 21; refine CL1.out.mono ?_; rintro e w7 ⟨rfl, rfl⟩)
              | (go_at_call 22; refine CL2.out.mono ?_; rintro e w7 ⟨rfl, d7, rfl⟩)
              | (go_at_call 23; refine (CC.out _).mono ?_; rintro e w7 ⟨rfl, rfl⟩))
            go_roundw
            case rel => exact ⟨j + 1, all, out, by omega, by go_num, (by omega), H6.out.but ((But.refl (fun _ => False) w6).drewN _) ⟨fun h => h, fun h => h⟩ (fun _ _ h => h), below_drewN HB6.out _⟩
            case measure => simp [intOf]; omega
          · obtain ⟨i, rfl⟩ : ∃ i : Nat, x = (i : Int) := ⟨x.toNat, by omega⟩
            have hi : out + i < all.length := by omega
            clear hq
            go_wp2_with fail
            generalize wr.alloc (.cells #[.int .i64 3, .int .i64 (i : Int)] 42) = w4 at *
            rw [HOB.out]
            clear a0 a1
            refine (RI.at_c b g n i _ (all.getD (out + i) 0) w4 HBo4.out.1 hn (by rw [ints_get _ _ (by rw [List.length_drop]; omega)]; simp [List.getD_eq_getElem?_getD, List.getElem?_drop])).mono ?_
            rintro e w5 ⟨rfl, d5, rfl⟩
            have hb5 : But (fun k => k = b ∨ k = g) w4 (w4.drewN d5) := (But.refl _ w4).drewN d5
            have H5 := Lib.hid (HBo4.out.but ((But.refl (fun _ => False) w4).drewN d5) ⟨fun h => h, fun h => h⟩ (fun _ _ h => h))
            generalize w4.drewN d5 = w5 at *
            have r5 := Lib.hid (hb5.row HR4.out (by omega))
            have a1' : w5.cell? ⟨ob, 1, none⟩ = some (.int .i64 (i : Int)) := r5.out.cell 1
            have HB5 : Hid (Below w.heap.size w w5) := Lib.hid (hb5.below HB4.out HB4.out.size (fun i hi => by rcases hi with rfl | rfl <;> omega))
            clear hb5
            have CT := Lib.hid (refAt_c P all out n i w5 H5.out.2 hi)
            obtain ⟨y, hy⟩ : ∃ y, all.getD (out + i) 0 = y := ⟨_, rfl⟩
            rw [hy] at CT ⊢
            clear hi hy
            go_wp2_with fail
            refine CT.out.mono ?_
            rintro e w6 ⟨rfl, d6, rfl⟩
            have H6 := Lib.hid (H5.out.but ((But.refl (fun _ => False) w5).drewN d6) ⟨fun h => h, fun h => h⟩ (fun _ _ h => h))
            have HB6 : Hid (Below w.heap.size w (w5.drewN d6)) := Lib.hid (below_drewN HB5.out d6)
            clear a1'
            generalize w5.drewN d6 = w6 at *
            have hl6 : (ints (all.drop out)).length = all.length - out := by rw [ints_len, List.length_drop]
            have CL1 := Lib.hid (RI.len_c b g n _ w6 H6.out.1)
            rw [hl6] at CL1
            have CL2 := Lib.hid (refLen_c P all out n w6 H6.out.2)
            have CC := Lib.hid (fun d => RI.cap_c b g n _ (w6.drewN d) (H6.out.1.drewN d))
            clear hl6
            generalize ((all.length - out : Nat) : Int) = lq at *
            go_wp2_with (first
              | (go_at_call 21; refine CL1.out.mono ?_; rintro e w7 ⟨rfl, rfl⟩)
              | (go_at_call 22; refine CL2.out.mono ?_; rintro e w7 ⟨rfl, d7, rfl⟩)
              | (go_at_call 23; refine (CC.out _).mono ?_; rintro e w7 ⟨rfl, rfl⟩))
            go_roundw
            case rel => exact ⟨j + 1, all, out, by omega, by go_num, (by omega), H6.out.but ((But.refl (fun _ => False) w6).drewN _) ⟨fun h => h, fun h => h⟩ (fun _ _ h => h), below_drewN HB6.out _⟩
            case measure => simp [intOf]; omega
        · go_wp2_with fail
          generalize wr.alloc (.cells #[.int .i64 4, .int .i64 x] 42) = w4 at *
          rw [HOB.out]
          clear a0 a1
          refine (told_c b g n P all out n x w4 HBo4.out.1 HBo4.out.2 hn).mono ?_
          rintro e w6 ⟨rfl, hb6⟩
          have H6 := Lib.hid (HBo4.out.but (But.of_below hb6 (fun _ => False)) ⟨fun h => h, fun h => h⟩ (fun _ _ h => h))
          have HB6 : Hid (Below w.heap.size w w6) := Lib.hid (HB4.out.trans (hb6.mono HB4.out.size))
          clear hb6
          have hl6 : (ints (all.drop out)).length = all.length - out := by rw [ints_len, List.length_drop]
          have CL1 := Lib.hid (RI.len_c b g n _ w6 H6.out.1)
          rw [hl6] at CL1
          have CL2 := Lib.hid (refLen_c P all out n w6 H6.out.2)
          have CC := Lib.hid (fun d => RI.cap_c b g n _ (w6.drewN d) (H6.out.1.drewN d))
          clear hl6
          generalize ((all.length - out : Nat) : Int) = lq at *
          go_wp2_with (first
            | (go_at_call 21; refine CL1.out.mono ?_; rintro e w7 ⟨rfl, rfl⟩)
            | (go_at_call 22; refine CL2.out.mono ?_; rintro e w7 ⟨rfl, d7, rfl⟩)
            | (go_at_call 23; refine (CC.out _).mono ?_; rintro e w7 ⟨rfl, rfl⟩))
          go_roundw
          case rel => exact ⟨j + 1, all, out, by omega, by go_num, (by omega), H6.out.but ((But.refl (fun _ => False) w6).drewN _) ⟨fun h => h, fun h => h⟩ (fun _ _ h => h), below_drewN HB6.out _⟩
          case measure => simp [intOf]; omega
        · have e1 : (kd == 1) = false := beq_eq_false_iff_ne.2 (by omega)
          have e2 : (kd == 2) = false := beq_eq_false_iff_ne.2 (by omega)
          have e3 : (kd == 3) = false := beq_eq_false_iff_ne.2 (by omega)
          have e4 : (kd == 4) = false := beq_eq_false_iff_ne.2 (by omega)
          clear hkd
          go_wp2_with fail
          have H6 := HBo4
          have HB6 := HB4
          generalize wr.alloc (.cells #[.int .i64 kd, .int .i64 x] 42) = w6 at *
          clear a0 a1
          have hl6 : (ints (all.drop out)).length = all.length - out := by rw [ints_len, List.length_drop]
          have CL1 := Lib.hid (RI.len_c b g n _ w6 H6.out.1)
          rw [hl6] at CL1
          have CL2 := Lib.hid (refLen_c P all out n w6 H6.out.2)
          have CC := Lib.hid (fun d => RI.cap_c b g n _ (w6.drewN d) (H6.out.1.drewN d))
          clear hl6
          generalize ((all.length - out : Nat) : Int) = lq at *
          go_wp2_with (first
            | (go_at_call 21; refine CL1.out.mono ?_; rintro e w7 ⟨rfl, rfl⟩)
            | (go_at_call 22; refine CL2.out.mono ?_; rintro e w7 ⟨rfl, d7, rfl⟩)
            | (go_at_call 23; refine (CC.out _).mono ?_; rintro e w7 ⟨rfl, rfl⟩))
          go_roundw
          case rel => exact ⟨j + 1, all, out, by omega, by go_num, (by omega), H6.out.but ((But.refl (fun _ => False) w6).drewN _) ⟨fun h => h, fun h => h⟩ (fun _ _ h => h), below_drewN HB6.out _⟩
          case measure => simp [intOf]; omega
      · have hx : (¬ (j : Int) < (k : Int)) ∨ ((j : Int) < (k : Int) ∧ ¬ (j : Int) < 5000) := by omega
        have HBo := Lib.hid hBo
        have HB := Lib.hid hB
        clear hc hBo hB
        rcases hx with hx | ⟨hx1, hx⟩
        all_goals (
          go_wp2_with fail
          refine (told_c b g n P all out n 0 wr HBo.out.1 HBo.out.2 hn).mono ?_
          rintro e w6 ⟨rfl, hb6⟩
          have HB6 : Hid (Below w.heap.size w w6) := Lib.hid (HB.out.trans (hb6.mono HB.out.size))
          clear hb6
          go_wp2
          go_ret
          exact ⟨rfl, HB6.out⟩)
end Go.Proofs.Ytkoepaagdaconaa
