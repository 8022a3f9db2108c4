/-
  The document's Groups.
-/
import Derived.Test.YtfiimmbpfdpjfaaSumE
import Derived.Deep.RegionLaw
import Derived.Deep.RegionHeld3
namespace Go.Proofs.Ytfiimmbpfdpjfaa
open Go.RowKit
set_option linter.unusedSimpArgs false

theorem infoSum : (Try.prog.info? 28).map (fun i => (i.zero, i.size, i.bytes)) = some (some (.agg #[.string ByteArray.empty, .int .i64 0, .int .i64 0, .float .f64 0, .float .f64 0, .float .f64 0, .float .f64 0]), 7, 64) := by kernel_rfl
/-- the name of the last group -/
theorem last_cell {w : World} {base : Nat} {v : Value} {ss : List St} {done : List ByteArray} (h : w.ownsRow base 28 7 v done.length (sms (groupsL ss done))) {d : ByteArray} (hd : done.getLast? = some d) :
    ∃ g c, v = .slice (some ⟨g, 0, none⟩) done.length c ∧ w.cell? ⟨g, (done.length - 1) * 7, none⟩ = some (.string d) := by
  have hpos : 0 < done.length := by
    cases done with
    | nil => cases hd
    | cons => simp
  rcases h.2 with ⟨_, e2⟩ | ⟨g, cap, cur, e1, _⟩
  · omega
  · subst e1
    refine ⟨g, cap, rfl, ?_⟩
    rw [h.cellAt _ (by omega)]
    have hl : done[done.length - 1]? = some d := by rw [← List.getLast?_eq_getElem?]; exact hd
    have hg : (groupsL ss done)[done.length - 1]? = some (sumS (named d ss) d (byV (sumV (valuesV (named d ss) 1)) (sumV (valuesV ss 1)))) := by
      unfold groupsL; rw [List.getElem?_map, hl]; rfl
    have := sms_get _ _ 0 _ hg (by omega)
    rw [Nat.add_zero] at this
    rw [this]; rfl
/-- the least name above all that were told, among the first k -/
def Best (ss : List St) (done : List ByteArray) (k : Nat) (x : Value) : Prop :=
  (x = .int .i64 (-1) ∧ ∀ t, t < k → ∀ s, ss[t]? = some s → abv done s.fn = false) ∨
  ∃ (a : Nat) (sa : St), a < k ∧ ss[a]? = some sa ∧ x = .int .i64 (a : Nat) ∧ abv done sa.fn = true ∧ ∀ t, t < k → ∀ s, ss[t]? = some s → abv done s.fn = true → ltS s.fn sa.fn = false
theorem Best.skip {ss : List St} {done : List ByteArray} {k : Nat} {x : Value} {s : St} (h : Best ss done k x) (hs : ss[k]? = some s) (hn : abv done s.fn = false) : Best ss done (k + 1) x := by
  rcases h with ⟨e, h1⟩ | ⟨a, sa, h1, h2, e, h4, h5⟩
  · refine .inl ⟨e, fun t ht u hu => ?_⟩
    by_cases q : t = k
    · subst q; rw [hs] at hu; cases hu; exact hn
    · exact h1 t (by omega) u hu
  · refine .inr ⟨a, sa, by omega, h2, e, h4, fun t ht u hu ha => ?_⟩
    by_cases q : t = k
    · subst q; rw [hs] at hu; cases hu; rw [hn] at ha; cases ha
    · exact h5 t (by omega) u hu ha
theorem Best.first {ss : List St} {done : List ByteArray} {k : Nat} {s : St} (h : ∀ t, t < k → ∀ s, ss[t]? = some s → abv done s.fn = false) (hs : ss[k]? = some s) (hn : abv done s.fn = true) : Best ss done (k + 1) (.int .i64 (k : Nat)) := by
  refine .inr ⟨k, s, by omega, hs, rfl, hn, fun t ht u hu ha => ?_⟩
  by_cases q : t = k
  · subst q; rw [hs] at hu; cases hu; exact ltS_ord.irr _
  · rw [h t (by omega) u hu] at ha; cases ha
theorem Best.stay {ss : List St} {done : List ByteArray} {k a : Nat} {s sa : St} (h1 : a < k) (h2 : ss[a]? = some sa) (h4 : abv done sa.fn = true) (h5 : ∀ t, t < k → ∀ s, ss[t]? = some s → abv done s.fn = true → ltS s.fn sa.fn = false) (hs : ss[k]? = some s) (hn : ltS s.fn sa.fn = false) : Best ss done (k + 1) (.int .i64 (a : Nat)) := by
  refine .inr ⟨a, sa, by omega, h2, rfl, h4, fun t ht u hu ha => ?_⟩
  by_cases q : t = k
  · subst q; rw [hs] at hu; cases hu; exact hn
  · exact h5 t (by omega) u hu ha
theorem Best.better {ss : List St} {done : List ByteArray} {k : Nat} {s sa : St} (h5 : ∀ t, t < k → ∀ s, ss[t]? = some s → abv done s.fn = true → ltS s.fn sa.fn = false) (hs : ss[k]? = some s) (hb : abv done s.fn = true) (hn : ltS s.fn sa.fn = true) : Best ss done (k + 1) (.int .i64 (k : Nat)) := by
  refine .inr ⟨k, s, by omega, hs, rfl, hb, fun t ht u hu ha => ?_⟩
  by_cases q : t = k
  · subst q; rw [hs] at hu; cases hu; exact ltS_ord.irr _
  · cases hc : ltS u.fn s.fn with
    | false => rfl
    | true =>
      have := h5 t (by omega) u hu ha
      rw [ltS_ord.tr _ _ _ hc hn] at this
      cases this
theorem own_base {w : World} {base base' e size n : Nat} {v : Value} {xs : List Value} (h : w.ownsRow base e size v n xs) (hb : base' ≤ base) : w.ownsRow base' e size v n xs := by
  refine ⟨h.1, ?_⟩
  rcases h.2 with q | ⟨g, cap, cur, e1, e2, e3⟩
  · exact .inl q
  · exact .inr ⟨g, cap, cur, e1, by omega, e3⟩
theorem out_slice {w : World} {base : Nat} {v : Value} {ss : List St} {done : List ByteArray} (h : w.ownsRow base 28 7 v done.length (sms (groupsL ss done))) :
    ∃ A3 c3, v = .slice A3 done.length c3 ∧ ∀ d, done.getLast? = some d → ∃ g, A3 = some ⟨g, 0, none⟩ ∧ w.cell? ⟨g, (done.length - 1) * 7, none⟩ = some (.string d) := by
  rcases h.2 with ⟨e1, e2⟩ | ⟨g, cap, cur, e1, _⟩
  · refine ⟨none, 0, by rw [e1, e2], fun d hd => ?_⟩
    obtain ⟨g, c, e, _⟩ := last_cell h hd
    rw [e1] at e
    cases e
  · refine ⟨_, cap, e1, fun d hd => ?_⟩
    obtain ⟨g', c, e, hc⟩ := last_cell h hd
    rw [e1] at e
    cases e
    exact ⟨g, rfl, hc⟩
set_option maxHeartbeats 4000000 in
set_option maxRecDepth 100000 in
theorem refGroups_c (A : Option Addr) (n c : Nat) (ss : List St) (w : World) (h : Ss w A n ss) (hn : n ≤ 1000) :
    Calls Try.prog 11 #[.slice A n c] w fun e w' => ∃ v ns, e = .returned v ∧ Names ss ns ∧ ns.length ≤ 1000 ∧ w'.ownsRow w.heap.size 28 7 v ns.length (sms (groupsL ss ns)) ∧ Below w.heap.size w w' := by
  obtain ⟨i0, hi, hz0, hz1, hz2⟩ := info_parts infoSum
  have HS := Lib.hid h
  clear h
  go_enter Try.func11, Try.ntmps11
  go_wp2_with fail
  refine (refOf_c A n c ss w HS.out hn).mono ?_
  rintro e w1 ⟨rfl, hb1⟩
  have HB1 := Lib.hid hb1
  have hs1 : w.heap.size ≤ w1.heap.size := hb1.size
  obtain ⟨be, hbe⟩ : ∃ be, sumV (valuesV ss 1) = be := ⟨_, rfl⟩
  have HBE := Lib.hid hbe
  obtain ⟨S, hS⟩ : ∃ S, ofS ss = S := ⟨_, rfl⟩
  have HSB : Hid (S.be = be) := Lib.hid (by rw [← hS]; exact hbe)
  rw [hS]
  obtain ⟨v0, v1, v2, v3, v4, v5, v6⟩ := S
  have hv3 : v3 = be := HSB.out
  subst hv3
  simp only [Sm.agg, Sm.cells]
  clear hb1 hbe hS HSB
  go_wp2_with fail
  have hRA := Row.new w1 28 [.string v0, .int .i64 v1, .int .i64 v2, .float .f64 v3, .float .f64 v4, .float .f64 v5, .float .f64 v6]
  have hBA := HB1.out.alloc hs1 (Obj.cells #[.string v0, .int .i64 v1, .int .i64 v2, .float .f64 v3, .float .f64 v4, .float .f64 v5, .float .f64 v6] 28)
  change Row (w1.alloc (Obj.cells #[.string v0, .int .i64 v1, .int .i64 v2, .float .f64 v3, .float .f64 v4, .float .f64 v5, .float .f64 v6] 28)) _ _ _ at hRA
  have hszA : (w1.alloc (Obj.cells #[.string v0, .int .i64 v1, .int .i64 v2, .float .f64 v3, .float .f64 v4, .float .f64 v5, .float .f64 v6] 28)).heap.size = w1.heap.size + 1 := by simp
  generalize w1.alloc (Obj.cells #[.string v0, .int .i64 v1, .int .i64 v2, .float .f64 v3, .float .f64 v4, .float .f64 v5, .float .f64 v6] 28) = w2 at *
  obtain ⟨bo, hbo⟩ : ∃ bo, w1.heap.size = bo := ⟨_, rfl⟩
  rw [hbo] at hRA hszA hs1 ⊢
  have HRA := Lib.hid hRA
  have HBA := Lib.hid hBA
  clear hRA hBA hbo HB1
  go_loopw [3, 5, 6, 7, 8, 9] (fun v i _ _ _ _ wr => ∃ done : List ByteArray, Done ss done ∧ i = .int .i64 (done.length : Nat) ∧ wr.ownsRow (bo + 1) 28 7 v done.length (sms (groupsL ss done)) ∧ Row wr bo 28 [.string v0, .int .i64 v1, .int .i64 v2, .float .f64 v3, .float .f64 v4, .float .f64 v5, .float .f64 v6] ∧ Below w.heap.size w wr ∧ bo + 1 ≤ wr.heap.size) (fun _ i _ _ _ _ _ => n + 1 - (intOf i).toNat)
  case atStart => exact ⟨[], Done.nil ss, rfl, World.ownsRow_nil _ _ _ _, HRA.out, HBA.out, by omega⟩
  case round =>
    obtain ⟨done, hD, rfl, hown, hR, hB, hsz⟩ := hrel
    clear HRA HBA
    have hdn : done.length ≤ n := by have := hD.few; rw [HS.out.len] at this; omega
    have HD := Lib.hid hD
    have HO := Lib.hid hown
    have HR := Lib.hid hR
    have HB := Lib.hid hB
    have HSW := Lib.hid (HS.out.below hB)
    obtain ⟨A3, c3, hu3, hlast⟩ := out_slice hown
    subst hu3
    obtain ⟨N, hN⟩ : ∃ N, done.length = N := ⟨_, rfl⟩
    rw [hN] at hdn
    rw [hN] at hlast ⊢
    have HN := Lib.hid hN
    have HLA := Lib.hid hlast
    clear hlast
    clear hD hown hR hB hN
    have d0 : decide ((N : Int) ≤ (n : Int)) = true := decide_eq_true (by omega)
    go_wp2_with fail
    go_loopw [6, 7, 8] (fun x y _ wq => ∃ k : Nat, k ≤ n ∧ y = .int .i64 k ∧ (∃ d, wq = wr.drewN d) ∧ Hid (Best ss done k x)) (fun _ y _ _ => n - (intOf y).toNat)
    case atStart => exact ⟨0, by omega, rfl, ⟨0, rfl⟩, Lib.hid (.inl ⟨rfl, fun t ht => by omega⟩)⟩
    case round =>
      obtain ⟨k, hk, rfl, ⟨d, rfl⟩, HBS⟩ := hrel
      by_cases hkn : k < n
      · have d1 : decide ((k : Int) < (n : Int)) = true := decide_eq_true (by omega)
        obtain ⟨s, hs⟩ : ∃ s, ss[k]? = some s := ⟨_, List.getElem?_eq_getElem (by rw [HS.out.len]; exact hkn)⟩
        obtain ⟨ad, hA, hcell⟩ := HSW.out.cs (by rw [sts_len, HS.out.len]; omega)
        obtain ⟨ae, hae⟩ : ∃ ae, ad.add (k * 7) = ae := ⟨_, rfl⟩
        obtain ⟨_, a1, _, _, _, _, _⟩ := st_at hcell hs hae
        have HCL := Lib.hid hcell
        have HGS := Lib.hid hs
        obtain ⟨f, hf⟩ : ∃ f, s.fn = f := ⟨_, rfl⟩
        rw [hf] at a1
        have HFN := Lib.hid hf
        have k0 : (0 : Int) ≤ (k : Int) := by omega
        subst hA
        clear hcell hs hf
        obtain ⟨b, hb⟩ : ∃ b, abv done f = b := ⟨_, rfl⟩
        have HBB := Lib.hid hb
        go_upto_region 10 with fail
        go_cut [8] from 24 to 60 (fun z wx => z = .bool b ∧ ∃ d', wx = wr.drewN d')
        case first =>
          cases hl : done.getLast? with
          | none =>
            have hdn0 : done = [] := List.getLast?_eq_none_iff.1 hl
            have hN0 : N = 0 := by rw [← HN.out, hdn0]; rfl
            have hbt : b = true := by rw [← HBB.out]; unfold abv; rw [hl]
            have q1 : ((N : Int) == 0) = true := by rw [beq_iff_eq]; omega
            subst hbt
            clear hdn0 hl hN0 hb
            go_wp2_with fail
            go_quiet (fail)
            go_wp2_with fail
            go_meet
            case rel => exact ⟨rfl, _, World.drewN_drewN ..⟩
          | some dl =>
            have hb2 : ltS dl f = b := by rw [← HBB.out]; unfold abv; rw [hl]
            obtain ⟨g3, hA3, cl⟩ := HLA.out dl hl
            have hNp : 0 < N := by
              rw [← HN.out]
              cases hdd : done with
              | nil => rw [hdd] at hl; cases hl
              | cons => simp
            have q1 : ((N : Int) == 0) = false := by rw [beq_eq_false_iff_ne]; omega
            obtain ⟨y, hy⟩ : ∃ y, N - 1 = y := ⟨_, rfl⟩
            rw [hy] at cl
            have hyi : (N : Int) - 1 = (y : Int) := by omega
            have hyn : y < N := by omega
            have hg := gtr_ltS f dl
            rw [hb2] at hg
            subst hA3
            clear hl hy hb2 hb
            by_cases p1 : Op.bytesLess f.toList dl.toList = true
            · rw [p1, Bool.true_or] at hg
              have hbf : b = false := hg.symm
              subst hbf
              clear hg
              go_wp2_with fail
              go_quiet (fail)
              go_wp2_with fail
              go_meet
              case rel => exact ⟨rfl, _, World.drewN_drewN ..⟩
            · have p1 := Bool.eq_false_iff.2 p1
              rw [p1, Bool.false_or] at hg
              by_cases p2 : (f.toList == dl.toList) = true
              · rw [p2] at hg
                have hbf : b = false := hg.symm
                subst hbf
                clear hg
                go_wp2_with fail
                go_quiet (fail)
                go_wp2_with fail
                go_meet
                case rel => exact ⟨rfl, _, World.drewN_drewN ..⟩
              · have p2 := Bool.eq_false_iff.2 p2
                rw [p2] at hg
                have hbf : b = true := hg.symm
                subst hbf
                clear hg
                go_wp2_with fail
                go_quiet (fail)
                go_wp2_with fail
                go_meet
                case rel => exact ⟨rfl, _, World.drewN_drewN ..⟩
        case rest =>
          obtain ⟨rfl, d', rfl⟩ := hcut
          cases b with
          | false =>
            clear hb
            go_wp2_with fail
            go_quiet (fail)
            go_wp2_with fail
            go_roundw
            case rel => exact ⟨k + 1, by omega, by go_num, ⟨_, rfl⟩, Lib.hid (HBS.out.skip HGS.out (by rw [HFN.out]; exact HBB.out))⟩
            case measure => simp [intOf] <;> omega
          | true =>
            rcases HBS.out with ⟨rfl, h1⟩ | ⟨a, sa, h1, h2, rfl, h4, h5⟩
            · have H1 := Lib.hid h1
              clear h1 hb
              go_wp2_with fail
              go_quiet (fail)
              go_wp2_with fail
              go_roundw
              case rel => exact ⟨k + 1, by omega, by go_num, ⟨_, rfl⟩, Lib.hid (Best.first H1.out HGS.out (by rw [HFN.out]; exact HBB.out))⟩
              case measure => simp [intOf] <;> omega
            · obtain ⟨ae2, hae2⟩ : ∃ ae2, ad.add (a * 7) = ae2 := ⟨_, rfl⟩
              obtain ⟨_, e1, _, _, _, _, _⟩ := st_at HCL.out h2 hae2
              obtain ⟨fa, hfa⟩ : ∃ fa, sa.fn = fa := ⟨_, rfl⟩
              rw [hfa] at e1
              have a0 : (0 : Int) ≤ (a : Int) := by omega
              have a1' : (a : Int) < (n : Int) := by omega
              have a2 : decide ((a : Int) < 0) = false := decide_eq_false (by omega)
              have a3 : a < n := by omega
              have H2 := Lib.hid h2
              have H4 := Lib.hid h4
              have H5 := Lib.hid h5
              have H1 := Lib.hid h1
              have HFA := Lib.hid hfa
              clear h1 h2 h4 h5 hb hfa
              by_cases p3 : Op.bytesLess f.toList fa.toList = true
              · go_wp2_with fail
                go_quiet (fail)
                go_wp2_with fail
                go_roundw
                case rel => exact ⟨k + 1, by omega, by go_num, ⟨_, rfl⟩, Lib.hid (Best.better H5.out HGS.out (by rw [HFN.out]; exact HBB.out) (by rw [HFN.out, HFA.out]; exact p3))⟩
                case measure => simp [intOf] <;> omega
              · have p3 := Bool.eq_false_iff.2 p3
                go_wp2_with fail
                go_quiet (fail)
                go_wp2_with fail
                go_roundw
                case rel => exact ⟨k + 1, by omega, by go_num, ⟨_, rfl⟩, Lib.hid (Best.stay H1.out H2.out H4.out H5.out HGS.out (by rw [HFN.out, HFA.out]; exact p3))⟩
                case measure => simp [intOf] <;> omega
      · have d1 : decide ((k : Int) < (n : Int)) = false := decide_eq_false (by omega)
        have hkn' : k = n := by omega
        have HBN : Hid (Best ss done n u6) := Lib.hid (by rw [← hkn']; exact HBS.out)
        have HOD := Lib.hid (own_below HO.out (below_drewN (Below.refl _ wr) d))
        have HRD := Lib.hid (HR.out.drewN d)
        have HBD := Lib.hid (below_drewN HB.out d)
        clear HBS hkn'
        rcases HBN.out with ⟨rfl, h1⟩ | ⟨a, sa, h1, h2, rfl, h4, h5⟩
        · have HNM : Hid (Names ss done) := Lib.hid (HD.out.all fun t ht => by
            obtain ⟨q, hq, he⟩ := List.getElem_of_mem ht
            exact h1 q (by rw [← HS.out.len]; exact hq) t (by rw [List.getElem?_eq_getElem hq, he]))
          clear h1
          go_wp2_with fail
          go_ret
          exact ⟨_, done, rfl, HNM.out, by rw [HN.out]; omega, by rw [HN.out]; have := HOD.out; rw [HN.out] at this; exact own_base this (by omega), HBD.out⟩
        · have HNX : Hid (Done ss (done ++ [sa.fn])) := Lib.hid (HD.out.next (List.mem_of_getElem? h2) h4 fun t ht ha => by
            obtain ⟨q, hq, he⟩ := List.getElem_of_mem ht
            exact h5 q (by rw [← HS.out.len]; exact hq) t (by rw [List.getElem?_eq_getElem hq, he]) ha)
          obtain ⟨ad, hA, hcell⟩ := HSW.out.cs (by rw [sts_len, HS.out.len]; omega)
          obtain ⟨ae2, hae2⟩ : ∃ ae2, ad.add (a * 7) = ae2 := ⟨_, rfl⟩
          obtain ⟨_, e1, _, _, _, _, _⟩ := st_at hcell h2 hae2
          obtain ⟨fa, hfa⟩ : ∃ fa, sa.fn = fa := ⟨_, rfl⟩
          rw [hfa] at e1 HNX
          have a0 : (0 : Int) ≤ (a : Int) := by omega
          have a1' : (a : Int) < (n : Int) := by omega
          have a2 : decide ((a : Int) < 0) = false := decide_eq_false (by omega)
          have y3 := HR.out.cell 3
          simp only [List.getElem?_cons_zero, List.getElem?_cons_succ] at y3
          have CN := Lib.hid (fun w h => refNamed_c (some ad) n c ss fa v3 w h hn)
          have hfew : N + 1 ≤ n := by
            have := HNX.out.few
            rw [List.length_append, List.length_singleton, HN.out, HS.out.len] at this
            omega
          have HSD := Lib.hid (hA ▸ HSW.out.below (below_drewN (Below.refl _ wr) d))
          subst hA
          clear hcell h1 h2 h4 h5 hfa
          go_upto_region 14 with fail
          have e1 : (wr.drewN d).cell? ⟨ae2.block, ae2.off + 1, none⟩ = some (.string fa) := e1
          have y3 : (wr.drewN d).cell? ⟨bo, 3, none⟩ = some (.float .f64 v3) := y3
          have hszq : bo + 1 ≤ (wr.drewN d).heap.size := hsz
          generalize wr.drewN d = wq at *
          obtain ⟨S2, hS2⟩ : ∃ S2, sumS (named fa ss) fa (byV (sumV (valuesV (named fa ss) 1)) v3) = S2 := ⟨_, rfl⟩
          rw [hS2] at CN
          have HS2 := Lib.hid hS2
          obtain ⟨x0, x1, x2, x3, x4, x5, x6⟩ := S2
          simp only [Sm.agg, Sm.cells] at CN
          clear hS2
          have HSQ : Hid (Ss wq.drew (some ad) n ss) := Lib.hid (HSD.out.below (Below.refl _ wq).drew)
          have HSG : Hid (∀ o, Ss (wq.alloc o).drew (some ad) n ss) := Lib.hid (fun o => HSD.out.below ((Below.refl _ wq).alloc (Nat.le_refl _) o).drew)
          have hbq : w.heap.size ≤ wq.heap.size := by omega
          have ya : ∀ o, (wq.alloc o).cell? ⟨bo, 3, none⟩ = some (.float .f64 v3) := fun o => (((Below.refl _ wq).alloc (Nat.le_refl _) o).cell (p := ⟨bo, 3, none⟩) (cell_lt y3)).trans y3
          have ea : ∀ o, (wq.alloc o).cell? ⟨ae2.block, ae2.off + 1, none⟩ = some (.string fa) := fun o => (((Below.refl _ wq).alloc (Nat.le_refl _) o).cell (p := ⟨ae2.block, ae2.off + 1, none⟩) (cell_lt e1)).trans e1
          go_cut [9] from 12 to 75 (fun x wx => ∃ gb, x = .pointer (some ⟨gb, 0, none⟩) ∧ Row wx gb 28 [.string x0, .int .i64 x1, .int .i64 x2, .float .f64 x3, .float .f64 x4, .float .f64 x5, .float .f64 x6] ∧ Below wq.heap.size wq wx)
          case first =>
            go_region_law (first
              | (go_simp; go_at_call 19; refine (CN.out _ HSQ.out).mono ?_; rintro e w11 ⟨rfl, hb11⟩; have hb11' : Below wq.heap.size wq w11 := Below.trans (Below.refl _ wq).drew hb11; have e11 := (hb11'.cell (p := ⟨ae2.block, ae2.off + 1, none⟩) (cell_lt e1)).trans e1; have y11 := (hb11'.cell (p := ⟨bo, 3, none⟩) (cell_lt y3)).trans y3; have HB11 := Lib.hid hb11'; clear hb11 hb11')
              | (go_simp; go_at_call 19; refine (CN.out _ (HSG.out _)).mono ?_; rintro e w11 ⟨rfl, hb11⟩; have hb11' : Below wq.heap.size wq w11 := Below.trans ((Below.refl _ wq).alloc (Nat.le_refl _) _).drew (hb11.mono (by show wq.heap.size ≤ (wq.heap.push _).size; simp)); have HZ11 := Lib.hid ((Row.new wq 28 zeroSum).drew.grown hb11); have hz11 := HZ11.out.at7; have e11 := (hb11'.cell (p := ⟨ae2.block, ae2.off + 1, none⟩) (cell_lt e1)).trans e1; have y11 := (hb11'.cell (p := ⟨bo, 3, none⟩) (cell_lt y3)).trans y3; have HB11 := Lib.hid hb11'; clear hb11 hb11'; obtain ⟨⟨z0, z1, z2, z3, z4, z5, z6⟩, k0, k1, k2, k3, k4, k5, k6⟩ := hz11))
            all_goals (
              go_wp2_with fail
              go_meet
              first
                | exact ⟨wq.heap.size, rfl, HZ11.out.store7 (.string x0) (.int .i64 x1) (.int .i64 x2) (.float .f64 x3) (.float .f64 x4) (.float .f64 x5) (.float .f64 x6), below_store7 HB11.out (Nat.le_refl _) (.string x0) (.int .i64 x1) (.int .i64 x2) (.float .f64 x3) (.float .f64 x4) (.float .f64 x5) (.float .f64 x6)⟩
                | exact ⟨w11.heap.size, rfl, Row.new w11 28 [.string x0, .int .i64 x1, .int .i64 x2, .float .f64 x3, .float .f64 x4, .float .f64 x5, .float .f64 x6], HB11.out.alloc HB11.out.size _⟩)
          case rest =>
            obtain ⟨gb, rfl, hRG, hBG⟩ := hcut
            have HRG := Lib.hid hRG
            obtain ⟨⟨b0, b1, b2, b3, b4, b5, b6⟩, _⟩ := hRG.at7
            have HOC := Lib.hid (own_below HOD.out hBG)
            have HRC := Lib.hid (HRD.out.grown hBG)
            have HBC : Hid (Below w.heap.size w wc) := Lib.hid (HBD.out.trans (hBG.mono (by omega)))
            have hszc : bo + 1 ≤ wc.heap.size := Nat.le_trans hszq hBG.size
            have HOC := Lib.hid (show wc.ownsRow (bo + 1) 28 7 (.slice A3 N c3) N (sms (groupsL ss done)) by have := HOC.out; rw [HN.out] at this; exact this)
            clear hRG hBG HOD HRD HBD HSQ HSG ya ea e1 y3
            go_wp2_with (first
              | (at_builtin; refine wpList_append_own _ rfl _ _ 30 rfl (bo + 1) 28 i0 (.agg #[.string ByteArray.empty, .int .i64 0, .int .i64 0, .float .f64 0, .float .f64 0, .float .f64 0, .float .f64 0]) 7 64 Try.underlying30 hi hz0 hz1 hz2 rfl (by decide) _ N (sms (groupsL ss done)) rfl (World.ownsRow.alloc HOC.out _) ⟨wc.heap.size, 0, none⟩ 1 1 [.string x0, .int .i64 x1, .int .i64 x2, .float .f64 x3, .float .f64 x4, .float .f64 x5, .float .f64 x6] rfl rfl ?c1 ?c2 ?c3 ?c4 ?c5 ?_)
              | go_in)
            case c1 =>
              intro q u hq
              rw [add_zero]
              exact ((Row.new wc 28 [.string x0, .int .i64 x1, .int .i64 x2, .float .f64 x3, .float .f64 x4, .float .f64 x5, .float .f64 x6]).cell q).trans hq
            case c2 => intro u hu; simp at hu; rcases hu with rfl | rfl | rfl | rfl | rfl | rfl | rfl <;> rfl
            case c3 => unfold maxLen; omega
            case c4 => omega
            case c5 => simp; omega
            intro v' w4 hown' hgrow _
            have hob : ∀ k, (some k = (Value.slice A3 N c3).ownBlock) → bo + 1 ≤ k := fun k hk => (HOC.out.lt k hk.symm).1
            have hgr : wc.grownBy w4 (Value.slice A3 N c3).ownBlock := (World.grownBy_alloc wc _ _).trans hgrow
            have HR4 : Hid (Row w4 bo 28 [.string v0, .int .i64 v1, .int .i64 v2, .float .f64 v3, .float .f64 v4, .float .f64 v5, .float .f64 v6]) := Lib.hid ((hgr.block bo HRC.out.lt (fun e => by have := hob bo e; omega)).trans HRC.out)
            have HB4 : Hid (Below w.heap.size w w4) := Lib.hid (HBC.out.grown hgr (by omega) (fun k e => by have := hob k e.symm; omega))
            have hsz4 : bo + 1 ≤ w4.heap.size := Nat.le_trans hszc hgr.size
            have HO4 := Lib.hid hown'
            clear hown' hgrow hgr hob
            go_wp2_with fail
            go_roundw
            case rel =>
              refine ⟨done ++ [fa], HNX.out, by rw [List.length_append, List.length_singleton, HN.out]; go_num, ?_, HR4.out, HB4.out, hsz4⟩
              rw [List.length_append, List.length_singleton, HN.out]
              have e : sms (groupsL ss (done ++ [fa])) = sms (groupsL ss done) ++ [.string x0, .int .i64 x1, .int .i64 x2, .float .f64 x3, .float .f64 x4, .float .f64 x5, .float .f64 x6] := by
                unfold groupsL
                rw [List.map_append, sms_append]
                congr 1
                show (sumS (named fa ss) fa (byV (sumV (valuesV (named fa ss) 1)) (sumV (valuesV ss 1)))).cells ++ [] = _
                rw [HBE.out, HS2.out]
                rfl
              rw [e]
              exact HO4.out
            case measure => simp [intOf] <;> omega
end Go.Proofs.Ytfiimmbpfdpjfaa
