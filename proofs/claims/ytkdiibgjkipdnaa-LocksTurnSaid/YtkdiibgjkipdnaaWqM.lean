/-
  Put of a book: a wait more.
-/
import Derived.Test.YtkdiibgjkipdnaaWqL
namespace Go.Proofs.Ytkdiibgjkipdnaa
open Go.RowKit Go.Maps
set_option linter.unusedSimpArgs false
set_option linter.unusedVariables false

def grow (G : List Int) (i : Nat) : List Int := if i < G.length then G else G ++ [0]
def SlotAt (w : World) (bp : Nat) (B : Bk) (e : Ending) (w' : World) : Prop := ∃ i B1, e = .returned (.int .i64 (i : Nat)) ∧ BookTo w bp B w' B1 ∧ B1.N = B.N ∧ B1.put = B.put ∧ B1.mp = B.mp ∧ B1.mn = B.mn ∧
  (B1.gens = grow B.gens i ∧ i < B1.gens.length) ∧ slotOf B.N i = none ∧ ∀ j, j < i → ∃ b, slotOf B.N j = some b
theorem BookTo.refl {w : World} {bp : Nat} {B : Bk} (h : BookAt w bp B) : BookTo w bp B w B := ⟨h, But.refl _ _, fun _ hb => .inl hb⟩
theorem BookTo.trans {w w' w'' : World} {bp : Nat} {B B' B'' : Bk} (h : BookTo w bp B w' B') (k : BookTo w' bp B' w'' B'') : BookTo w bp B w'' B'' := by
  refine ⟨k.at_, ⟨k.but.os.trans h.but.os, k.but.tape.trans h.but.tape, k.but.output.trans h.but.output, Nat.le_trans h.but.size k.but.size, ?_⟩, ?_⟩
  · intro b hb hn
    refine (k.but.block b (Nat.lt_of_lt_of_le hb h.but.size) fun e => ?_).trans (h.but.block b hb hn)
    rcases h.own b e with e2 | e2
    · exact hn e2
    · omega
  · intro b hb
    rcases k.own b hb with e | e
    · exact h.own b e
    · exact .inr (Nat.le_trans h.but.size e)
theorem BookTo.after {w w' w'' : World} {bp : Nat} {B B'' : Bk} (hb : Below w.heap.size w w') (h : BookAt w bp B) (k : BookTo w' bp B w'' B'') : BookTo w bp B w'' B'' :=
  ⟨k.at_, (But.of_below hb _).trans k.but, fun b hb2 => (k.own b hb2).imp id (fun e => Nat.le_trans hb.size e)⟩
theorem BookTo.then {w w' w'' : World} {bp : Nat} {B B'' : Bk} (k : BookTo w bp B w' B'') (hb : Below w'.heap.size w' w'') : BookTo w bp B w'' B'' :=
  ⟨k.at_.below hb, k.but.trans (But.of_below hb _), k.own⟩
theorem least (N : List Nd) : ∀ n, (∃ i, i < n ∧ slotOf N i = none ∧ ∀ j, j < i → ∃ b, slotOf N j = some b) ∨ ∀ j, j < n → ∃ b, slotOf N j = some b
  | 0 => .inr fun j hj => absurd hj (Nat.not_lt_zero _)
  | n + 1 => by
    rcases least N n with ⟨i, h1, h2, h3⟩ | h
    · exact .inl ⟨i, by omega, h2, h3⟩
    · cases hs : slotOf N n with
      | none => exact .inl ⟨n, by omega, hs, h⟩
      | some b =>
        exact .inr fun j hj => by
          rcases Nat.lt_or_ge j n with e | e
          · exact h j e
          · have : j = n := by omega
            subst this; exact ⟨b, hs⟩
theorem slot_c (bp : Nat) (B : Bk) (w : World) (h : BookAt w bp B) (hn : B.gens.length ≤ 99999) :
    Calls Try.prog 28 #[.pointer (some ⟨bp, 0, none⟩)] w (SlotAt w bp B) := by
  rcases least B.N B.gens.length with ⟨i, h1, h2, h3⟩ | h3
  · refine (slotOld_c bp B w h i h1 h2 h3).mono ?_
    rintro e w' ⟨rfl, rfl⟩
    exact ⟨i, B, rfl, .refl h, rfl, rfl, rfl, rfl, ⟨by unfold grow; rw [if_pos h1], h1⟩, h2, h3⟩
  · refine (slotNew_c bp B w h h3 hn).mono ?_
    rintro e w' ⟨B', rfl, hb, h4, h5, h6, h7, h8⟩
    exact ⟨B.gens.length, B', rfl, hb, h4, h6, h7, h8, ⟨by unfold grow; rw [if_neg (by omega)]; exact h5, by rw [h5]; simp⟩, slotOf_far h.ok, h3⟩
/-- what Put has brought about -/
def PutTo (w : World) (bp : Nat) (B : Bk) (k : Key) (hs hg arm vn vs vg : Int) (e : Ending) (w' : World) : Prop := ∃ i B' x g, e = .returned (putV x.rc.ms x.rc.mg 0) ∧ BookTo w bp B w' B' ∧ B'.N = B.N ++ [x] ∧ x.ser = B.put + 1 ∧ B'.put = B.put + 1 ∧ B'.mn ≤ B.mn + 1 ∧
  x.rc = ⟨(i : Int) + 1, g + 1, hs, hg, k.s, k.g, k.d, arm, vn, vs, vg⟩ ∧ (grow B.gens i)[i]? = some g ∧ B'.gens = (grow B.gens i).set i (g + 1) ∧ slotOf B.N i = none ∧ ∀ j, j < i → ∃ b, slotOf B.N j = some b
structure PutOk (k : Key) (hs hg arm vn vs vg : Int) : Prop where
  key : k.Ok
  hs : (Lit.int .u32 hs).wf = true
  hg : (Lit.int .u32 hg).wf = true
  arm : (Lit.int .i64 arm).wf = true
  vn : (Lit.int .i64 vn).wf = true
  vs : (Lit.int .u32 vs).wf = true
  vg : (Lit.int .u32 vg).wf = true
def three (a b c k : Nat) : Prop := k = a ∨ k = b ∨ k = c
def newNd (xb rb i : Nat) (g : Int) (k : Key) (hs hg arm vn vs vg put : Int) : Nd := ⟨xb, rb, ⟨(i : Int) + 1, g + 1, hs, hg, k.s, k.g, k.d, arm, vn, vs, vg⟩, put + 1⟩
theorem wf_u32 {n : Int} (h0 : 0 ≤ n) (h1 : n ≤ 4294967295) : (Lit.int .u32 n).wf = true := by
  simp [Lit.wf, IntKind.min, IntKind.max, IntKind.signed, IntKind.bits]; omega
theorem BookTo.store2 {w w' : World} {bp : Nat} {B B' : Bk} (k : BookTo w bp B w' B') {z : Nat} (hz : w.heap.size ≤ z) (hzo : ¬ B'.own bp z) (a b : Value) : BookTo w bp B ((w'.setCell ⟨z, 0, none⟩ a).setCell ⟨z, 1, none⟩ b) B' := by
  have hb : But (fun x => x = z) w' ((w'.setCell ⟨z, 0, none⟩ a).setCell ⟨z, 1, none⟩ b) := (But.set (S := fun x => x = z) (But.refl (fun x => x = z) w') ⟨z, 0, none⟩ a rfl).set ⟨z, 1, none⟩ b rfl
  exact ⟨k.at_.but hb (fun x hx e => hzo (by rw [← e]; exact hx)), (k.but.setNew ⟨z, 0, none⟩ a hz).setNew ⟨z, 1, none⟩ b hz, k.own⟩
theorem put_end {w w3 wf : World} {bp i xb rb z mn : Nat} {B B1 : Bk} {k : Key} {hs hg arm vn vs vg g : Int} {a b : Value} (HTO : BookTo w bp B w3 B1)
    (hN : B1.N = B.N) (hP : B1.put = B.put) (hmp : B1.mp = B.mp) (hfree : slotOf B.N i = none) (hleast : ∀ j, j < i → ∃ b, slotOf B.N j = some b)
    (hgi : B1.gens[i]? = some g) (hp : B.put ≤ 99999) (hm : mn ≤ 100000) (hmm : mn ≤ B.mn + 1) (hgr : B1.gens = grow B.gens i) (hk : PutOk k hs hg arm vn vs vg) (hxb : w3.heap.size ≤ xb)
    (hrow : (∃ y ∈ B.N, y.rc.key = k ∧ rb = y.rb) ∨ ((∀ y ∈ B.N, y.rc.key ≠ k) ∧ w3.heap.size ≤ rb ∧ rb ≠ xb))
    (hB : But (putS bp B1 (newNd xb rb i g k hs hg arm vn vs vg B.put)) w3 wf)
    (hbk : Row wf bp 74 [.map (some B1.mp), B1.sv, B1.gv, .int .i64 (B.put + 1), .int .i64 ((B.N.length : Nat) + 1)])
    (hmap : RMap wf B.mp mn fun y => if y = k then some rb else rowOf B.N y)
    (hs' : wf.ownsRow 0 92 1 B1.sv B1.gens.length ((slotCells B.N B1.gens.length).set i (.pointer (some ⟨xb, 0, none⟩))))
    (hg' : wf.ownsRow 0 33 1 B1.gv B1.gens.length ((B1.gens.map (Value.int .u32)).set i (.int .u32 (g + 1))))
    (hn : Row wf xb 98 [.int .u32 ((i : Int) + 1), .int .u32 (g + 1), .int .u32 hs, .int .u32 hg, .int .u32 k.s, .int .u32 k.g, .int .i64 k.d, .int .i64 arm, .int .i64 vn, .int .u32 vs, .int .u32 vg, .int .i64 (B.put + 1), pt ((inRow k B.N).getLast?.map (·.blk)), .pointer none])
    (hr : Row wf rb 94 [pt ((inRow k B.N ++ [newNd xb rb i g k hs hg arm vn vs vg B.put]).head?.map (·.blk)), .pointer (some ⟨xb, 0, none⟩)])
    (hl : ∀ y, (inRow k B.N).getLast? = some y → Row wf y.blk 98 (y.cells (prv (inRow k B.N) y.blk) (some xb)))
    (hz : w.heap.size ≤ z) (hzo : ¬ B1.own bp z) (hzl : z < w3.heap.size) :
    PutTo w bp B k hs hg arm vn vs vg (.returned (putV ((i : Int) + 1) (g + 1) 0)) ((wf.setCell ⟨z, 0, none⟩ a).setCell ⟨z, 1, none⟩ b) := by
  have hil := (List.getElem?_eq_some_iff.1 hgi).1
  have hgb := HTO.at_.ok.gens g (List.mem_of_getElem? hgi)
  have hfew := HTO.at_.ok.few
  rw [hP] at hgb
  have hxn : NewNd w3 B1 i (newNd xb rb i g k hs hg arm vn vs vg B.put) := by
    refine ⟨hil, by rw [hN]; exact hfree, rfl, ?_, by rw [hP]; rfl, ?_, hxb, ?_⟩
    · rw [hgi]; simp [newNd]
    · exact ⟨wf_u32 (show 0 ≤ (i : Int) + 1 by omega) (show (i : Int) + 1 ≤ _ by omega), wf_u32 (show 0 ≤ g + 1 by omega) (show g + 1 ≤ _ by omega), hk.hs, hk.hg, hk.key, hk.arm, hk.vn, hk.vs, hk.vg⟩
    · rw [hN]; exact hrow
  have hkey : (newNd xb rb i g k hs hg arm vn vs vg B.put).rc.key = k := rfl
  have HF := BookTo.put HTO.at_ hxn (by rw [hP]; exact hp) hm hB (by rw [hP, hN]; exact hbk) (by
      rw [hmp, hN]
      have e : (fun y => if y = k then some rb else rowOf B.N y) = rowOf (B.N ++ [newNd xb rb i g k hs hg arm vn vs vg B.put]) := by
        funext y
        rw [rowOf_append]
        · rw [hkey]; rfl
        · intro y hy e
          rcases hrow with ⟨q, hq, e1, e2⟩ | ⟨h1, _, _⟩
          · have := (HTO.at_.ok.same y (by rw [hN]; exact hy) q (by rw [hN]; exact hq)).2 (e.trans (hkey.trans e1.symm))
            rw [this]; exact e2.symm
          · exact absurd e (h1 y hy)
      rw [← e]; exact hmap) (by rw [hN]; exact hs') hg' (by rw [hN]; exact hn) (by rw [hN]; exact hr) (by rw [hN]; exact hl)
  have hzo2 : ¬ (B1.with1 i (newNd xb rb i g k hs hg arm vn vs vg B.put) mn).own bp z := fun e => by
    rcases HF.own z e with e | e
    · exact hzo e
    · omega
  exact ⟨i, _, newNd xb rb i g k hs hg arm vn vs vg B.put, g, rfl, (HTO.trans HF).store2 hz hzo2 a b, by change B1.N ++ _ = _; rw [hN], rfl, by change B1.put + 1 = _; rw [hP], hmm, rfl, by rw [← hgr]; exact hgi, by change B1.gens.set i _ = _; rw [hgr]; rfl, hfree, hleast⟩
set_option maxHeartbeats 8000000 in
set_option maxRecDepth 100000 in
theorem putNew_c (bp : Nat) (B : Bk) (k : Key) (hs hg arm vn vs vg : Int) (w : World) (h : BookAt w bp B) (hsm : sameH hs hg 0 0 = false) (hk : ¬ (k.d < 1 ∨ 4 < k.d)) (hno : ∀ x ∈ B.N, hits hs hg arm x = false)
    (hrc : PutOk k hs hg arm vn vs vg) (hgl : B.gens.length ≤ 99999) (hpl : B.put ≤ 99999) (hml : B.mn ≤ 99999) (hnl : B.N.length ≤ 99999) (hrow : inRow k B.N = []) :
    Calls Try.prog 23 #[.pointer (some ⟨bp, 0, none⟩), .agg #[.int .u32 k.s, .int .u32 k.g, .int .i64 k.d], .agg #[.int .u32 hs, .int .u32 hg], .int .i64 arm, .agg #[.int .i64 vn, .int .u32 vs, .int .u32 vg]] w (PutTo w bp B k hs hg arm vn vs vg) := by
  have HROW := Lib.hid hrow
  clear hrow
  have H0 := Lib.hid h
  have H1 := Lib.hid (PutIn.made w k hs hg vn vs vg)
  have H2 := Lib.hid (h.below H1.out.below)
  have c0 := H1.out.who.cell 0
  have c1 := H1.out.who.cell 1
  have b2 := H1.out.at_.cell 2
  dsimp only [List.getElem?_cons_zero, List.getElem?_cons_succ] at c0 c1 b2
  obtain ⟨_, k1, _⟩ := H2.out.fields
  obtain ⟨A, c, hsv, hcell⟩ := H2.out.ptrs
  have HC := Lib.hid hcell
  rw [hsv] at k1
  have hfew := h.ok.few
  obtain ⟨n, hn⟩ : ∃ n, B.gens.length = n := ⟨_, rfl⟩
  have HNN := Lib.hid hn
  rw [hn] at HC hfew k1
  have e1 := fun w => run_eql_handle hs hg 0 0 w
  rw [hsm] at e1
  have hzw : w.heap.size ≤ w.heap.size + 3 := by omega
  have t1 : decide (k.d < 1) = false := decide_eq_false (by omega)
  have t2 : decide (4 < k.d) = false := decide_eq_false (by omega)
  have HNO := Lib.hid hno
  have HKO := Lib.hid hrc
  have HB1 := Lib.hid hgl
  have HB2 := Lib.hid hpl
  have HB3 := Lib.hid hml
  have hw3 : wrap64 (((B.N.length : Nat) : Int) + 1) = ((B.N.length : Nat) : Int) + 1 := by unfold wrap64; omega
  clear hsm h hsv hcell hn hk hno hrc hgl hpl hml hnl
  go_enter Try.func23, Try.ntmps23
  go_wp2_with fail
  generalize ((((w.alloc (.cells #[.int .u32 k.s, .int .u32 k.g, .int .i64 k.d] 60)).alloc (.cells #[.int .u32 hs, .int .u32 hg] 35)).alloc (.cells #[.int .i64 vn, .int .u32 vs, .int .u32 vg] 43)).alloc (.cells #[.int .u32 0, .int .u32 0] 35)) = w1 at *
  clear b2
  go_loopw [42, 13] (fun x y wr => ∃ j d : Nat, j ≤ n ∧ x = .int .i64 j ∧ wr = w1.drewN d) (fun x _ _ => n - (intOf x).toNat)
  case atStart => exact ⟨0, 0, by omega, rfl, rfl⟩
  case round =>
    obtain ⟨j, d, hj, rfl, hwr⟩ := hrel
    have j0 : (0 : Int) ≤ (j : Int) := by omega
    have HN2 : Hid (∀ e, wr.drewN e = w1.drewN (d + e)) := Lib.hid fun e => by rw [hwr, World.drewN_drewN]
    by_cases hjn : j < n
    · have dlt : decide ((j : Int) < (n : Int)) = true := decide_eq_true (by omega)
      have c0 : wr.cell? ⟨w.heap.size + 1, 0, none⟩ = some (.int .u32 hs) := by rw [hwr]; exact c0
      have c1 : wr.cell? ⟨w.heap.size + 1, 1, none⟩ = some (.int .u32 hg) := by rw [hwr]; exact c1
      obtain ⟨g, hA, hcell⟩ := HC.out j (slotOf B.N j) (slotsL_get hjn)
      have hcell : wr.cell? ⟨g, j, none⟩ = some (pt (slotOf B.N j)) := by rw [hwr]; exact hcell
      cases hso : slotOf B.N j with
      | none =>
        rw [hso] at hcell
        simp only [pt] at hcell
        subst hA
        clear hwr hso k1
        go_wp2_with fail
        go_quiet (fail)
        go_wp2_with fail
        go_roundw
        case rel => exact ⟨j + 1, _, by omega, by go_num, HN2.out _⟩
        case measure => simp [intOf] <;> omega
      | some b =>
        obtain ⟨x, hx, hxi, hxb⟩ := slotOf_some hso
        rw [hso] at hcell
        simp only [pt] at hcell
        have hxr := (H2.out.mem.node x hx).drewN d
        rw [← hwr] at hxr
        obtain ⟨a0, a1, a2, a3, a4, a5, a6, a7, _⟩ := Nd.at_ hxr
        rw [hxb] at a2 a3 a7
        have e2 := fun w => run_eql_handle x.rc.hs x.rc.hg hs hg w
        have hnh := HNO.out x hx
        subst hA
        by_cases h1 : sameH x.rc.hs x.rc.hg hs hg = true
        · rw [h1] at e2
          have t4 : (x.rc.arm == arm) = false := by unfold hits at hnh; rw [h1, Bool.true_and] at hnh; exact hnh
          have t3 : decide (x.rc.arm = arm) = false := decide_eq_false (by simpa using t4)
          clear hwr hso k1 hnh h1 hxr a0 a1 a4 a5 a6
          go_wp2_with fail
          go_quiet (fail)
          go_wp2_with fail
          go_roundw
          case rel => exact ⟨j + 1, _, by omega, by go_num, HN2.out _⟩
          case measure => simp [intOf] <;> omega
        · have h1 : sameH x.rc.hs x.rc.hg hs hg = false := by rw [← Bool.not_eq_true]; exact h1
          rw [h1] at e2
          clear hwr hso k1 hnh h1 hxr a0 a1 a4 a5 a6
          go_wp2_with fail
          go_quiet (fail)
          go_wp2_with fail
          go_roundw
          case rel => exact ⟨j + 1, _, by omega, by go_num, HN2.out _⟩
          case measure => simp [intOf] <;> omega
    · have dlt : decide ((j : Int) < (n : Int)) = false := decide_eq_false (by omega)
      have HBW : Hid (Below w.heap.size w wr) := Lib.hid (by rw [hwr]; exact below_drewN H1.out.below d)
      have HI : Hid (PutIn w wr k hs hg vn vs vg) := Lib.hid (by rw [hwr]; exact ⟨below_drewN H1.out.below d, H1.out.at_.drewN d, H1.out.who.drewN d, H1.out.v.drewN d, H1.out.res.drewN d⟩)
      clear hwr HN2 c0 c1 k1 HC H1 H2 HNO
      have CS := Lib.hid (slot_c bp B wr (H0.out.below HI.out.below) HB1.out)
      go_wp2_with fail
      refine CS.out.mono ?_
      rintro e w3 ⟨i, B1, rfl, hto, hN1, hput1, hmp1, hmn1, hgens1, hfree, hleast⟩
      have hown : ∀ b, w.heap.size ≤ b → ¬ B.own bp b := fun b hb ho => by have := H0.out.mem.lt ho; omega
      have hat3 := hto.but.row HI.out.at_ (hown _ (by omega))
      have hwho3 := hto.but.row HI.out.who (hown _ (by omega))
      have hv3 := hto.but.row HI.out.v (hown _ (by omega))
      have hres3 := hto.but.row HI.out.res (hown _ (by omega))
      have hsz3 : w.heap.size ≤ w3.heap.size := Nat.le_trans HBW.out.size hto.but.size
      obtain ⟨g, hgi⟩ : ∃ g, B1.gens[i]? = some g := ⟨_, List.getElem?_eq_getElem hgens1.2⟩
      have HTO := Lib.hid (BookTo.after HBW.out H0.out hto)
      have H3 := Lib.hid hto.at_
      have hgr := H3.out.ok.gens g (List.mem_of_getElem? hgi)
      have hpr := H3.out.ok.fewp
      have hn1 := H3.out.ok.few
      rw [hput1] at hgr hpr
      have hw1 : IntKind.u32.wrap (g + 1) = g + 1 := by simp [IntKind.wrap, IntKind.bits, IntKind.signed]; omega
      obtain ⟨A2, d2, hgv, hgc⟩ := own_form H3.out.mem.gen
      obtain ⟨gb, hA2, hgcell, hgfz⟩ := hgc i (.int .u32 g) (by rw [List.getElem?_map, hgi]; rfl)
      subst hA2
      obtain ⟨A4, d4, hsv, hsc⟩ := own_form H3.out.mem.slots
      obtain ⟨sb, hA4, _, hsfz⟩ := hsc i _ (slotCells_get hgens1.2)
      subst hA4
      have f2 := H3.out.fields.2.2.1
      rw [hgv] at f2
      have hgbp : gb ≠ bp := fun e => H3.out.ok.bp_ne (b := gb) (k := 3) (H3.out.ok.t3 gb (by rw [hgv]; rfl)) (by decide) e.symm
      have hsbp : sb ≠ bp := fun e => H3.out.ok.bp_ne (b := sb) (k := 2) (H3.out.ok.t2 sb (by rw [hsv]; rfl)) (by decide) e.symm
      have hgsb : gb ≠ sb := fun e => by
        have u1 := H3.out.ok.t3 gb (by rw [hgv]; rfl)
        have u2 := H3.out.ok.t2 sb (by rw [hsv]; rfl)
        rw [e, u2] at u1; cases u1
      have HLOC : Hid (∀ b, w.heap.size ≤ b → b < wr.heap.size → ¬ three bp gb sb b) := Lib.hid fun b hb1 hb2 ht => by
        have : B1.own bp b := by
          rcases ht with e | e | e
          · exact .inl e
          · exact .inr (.inr (.inr (.inl (by rw [hgv, e]; rfl))))
          · exact .inr (.inr (.inl (by rw [hsv, e]; rfl)))
        rcases hto.own b this with e | e
        · exact hown b hb1 e
        · omega
      have HLO : Hid (∀ b, w.heap.size ≤ b → b < wr.heap.size → ¬ B1.own bp b) := Lib.hid fun b hb1 hb2 ht => by
        rcases hto.own b ht with e | e
        · exact hown b hb1 e
        · omega
      have HLT3 : Hid (w.heap.size + 3 < wr.heap.size) := Lib.hid HI.out.res.lt
      have hgbl : gb < w3.heap.size := (H3.out.mem.gen.lt gb (by rw [hgv]; rfl)).2
      have hsbl : sb < w3.heap.size := (H3.out.mem.slots.lt sb (by rw [hsv]; rfl)).2
      have hbpl : bp < w3.heap.size := H3.out.mem.book.lt
      have hG3 := H3.out.mem.gen
      rw [hgv] at hG3
      have hS3 := H3.out.mem.slots
      rw [hsv] at hS3
      have hR3 := H3.out.mem.book
      rw [hgv, hsv, hN1, hput1] at hR3
      have i0 : (0 : Int) ≤ (i : Int) := by omega
      have i1 : (i : Int) < (B1.gens.length : Nat) := by have := hgens1.2; omega
      obtain ⟨n1, hn1e⟩ : ∃ n1, B1.gens.length = n1 := ⟨_, rfl⟩
      rw [hn1e] at hR3 hG3 hS3 hgv hsv f2 i1 hn1 hgens1
      have HN1E := Lib.hid hn1e
      have HGV := Lib.hid hgv
      have HSV := Lib.hid hsv
      have HAT3 := Lib.hid hat3
      have HWHO3 := Lib.hid hwho3
      have HV3 := Lib.hid hv3
      have HRES3 := Lib.hid hres3
      have HG3 := Lib.hid hG3
      have HS3 := Lib.hid hS3
      have HR3 := Lib.hid hR3
      have HN1 := Lib.hid hN1
      have HP1 := Lib.hid hput1
      have HMP1 := Lib.hid hmp1
      have HMN1 := Lib.hid hmn1
      have HGE1 := Lib.hid hgens1
      have HFREE := Lib.hid hfree
      have HLEAST := Lib.hid hleast
      have HGI := Lib.hid hgi
      clear hto hat3 hwho3 hv3 hres3 hgv hsv hG3 hS3 hR3 hn1e hN1 hput1 hmp1 hmn1 hgens1 hfree hleast hgi hgc hsc CS
      go_upto_region 15 with fail
      have hB4 : But (three bp gb sb) w3 (w3.setCell ⟨gb, i, none⟩ (.int .u32 (g + 1))) := (But.refl _ _).set ⟨gb, i, none⟩ _ (.inr (.inl rfl))
      have hR4 := HR3.out.far (p := ⟨gb, i, none⟩) (v := .int .u32 (g + 1)) hgbp.symm
      have hG4 := (HG3.out.stored i (.int .u32 (g + 1))).1
      have hS4 := own_set_ne (b := gb) (o := i) (x := .int .u32 (g + 1)) HS3.out (fun e => hgsb (Option.some.inj e).symm)
      generalize w3.setCell ⟨gb, i, none⟩ (.int .u32 (g + 1)) = w4 at *
      have p3 := hR4.cell 3
      have q3 := hR4.frozen 3
      simp only [List.getElem?_cons_zero, List.getElem?_cons_succ] at p3
      have HB4 := Lib.hid hB4
      have HR4 := Lib.hid hR4
      have HG4 := Lib.hid hG4
      have HS4 := Lib.hid hS4
      clear hB4 hR4 hG4 hS4 hgcell hgfz hsfz f2
      go_upto_region 16 with fail
      have hB5 := HB4.out.set ⟨bp, 3, none⟩ (.int .i64 (B.put + 1)) (.inl rfl)
      have hR5 := HR4.out.set 3 (.int .i64 (B.put + 1))
      have hG5 := own_set_ne (b := bp) (o := 3) (x := .int .i64 (B.put + 1)) HG4.out (fun e => hgbp (Option.some.inj e))
      have hS5 := own_set_ne (b := bp) (o := 3) (x := .int .i64 (B.put + 1)) HS4.out (fun e => hsbp (Option.some.inj e))
      simp only [List.set_cons_zero, List.set_cons_succ] at hR5
      generalize w4.setCell ⟨bp, 3, none⟩ (.int .i64 (B.put + 1)) = w5 at *
      have p4 := hR5.cell 4
      have q4 := hR5.frozen 4
      simp only [List.getElem?_cons_zero, List.getElem?_cons_succ] at p4
      have HB5 := Lib.hid hB5
      have HR5 := Lib.hid hR5
      have HG5 := Lib.hid hG5
      have HS5 := Lib.hid hS5
      clear hB5 hR5 hG5 hS5 p3 q3 HB4 HR4 HG4 HS4
      go_upto_region 17 with fail
      have hB6 := HB5.out.set ⟨bp, 4, none⟩ (.int .i64 ((B.N.length : Nat) + 1)) (.inl rfl)
      have hR6 := HR5.out.set 4 (.int .i64 ((B.N.length : Nat) + 1))
      have hG6 := own_set_ne (b := bp) (o := 4) (x := .int .i64 ((B.N.length : Nat) + 1)) HG5.out (fun e => hgbp (Option.some.inj e))
      have hS6 := own_set_ne (b := bp) (o := 4) (x := .int .i64 ((B.N.length : Nat) + 1)) HS5.out (fun e => hsbp (Option.some.inj e))
      simp only [List.set_cons_zero, List.set_cons_succ] at hR6
      generalize w5.setCell ⟨bp, 4, none⟩ (.int .i64 ((B.N.length : Nat) + 1)) = w6 at *
      have p2 := hR6.cell 2
      simp only [List.getElem?_cons_zero, List.getElem?_cons_succ] at p2
      have pg : w6.cell? ⟨gb, i, none⟩ = some (.int .u32 (g + 1)) := by
        rw [hG6.cellAt i (by omega)]
        exact getElem?_set_same (by rw [List.length_map, HN1E.out]; omega)
      have hsz6 : w3.heap.size ≤ w6.heap.size := hB6.size
      have hw2 : IntKind.u32.wrap ((i : Int) + 1) = (i : Int) + 1 := by simp [IntKind.wrap, IntKind.bits, IntKind.signed]; omega
      have hA7 : But (three bp gb sb) w3 (w6.alloc (.cells #[.int .u32 ((i : Int) + 1), .int .u32 (g + 1)] 35)) := hB6.alloc _
      have hR7 := hR6.alloc (.cells #[.int .u32 ((i : Int) + 1), .int .u32 (g + 1)] 35)
      have hG7 := hG6.alloc (.cells #[.int .u32 ((i : Int) + 1), .int .u32 (g + 1)] 35)
      have hS7 := hS6.alloc (.cells #[.int .u32 ((i : Int) + 1), .int .u32 (g + 1)] 35)
      have hM7 := Row.new w6 35 [.int .u32 ((i : Int) + 1), .int .u32 (g + 1)]
      have HB7 := Lib.hid hA7
      have HR7 := Lib.hid hR7
      have HG7 := Lib.hid hG7
      have HS7 := Lib.hid hS7
      have HM7 := Lib.hid hM7
      clear hB6 hR6 hG6 hS6 p4 q4 HB5 HR5 HG5 HS5 hA7 hR7 hG7 hS7 hM7
      go_upto_region 18 with fail
      generalize w6.alloc (.cells #[.int .u32 ((i : Int) + 1), .int .u32 (g + 1)] 35) = w7 at *
      have HZM : Hid (w3.heap.size ≤ w6.heap.size) := Lib.hid hsz6
      clear hsz6 p2 pg
      generalize w6.heap.size = zm at *
      have hm7 := HM7.out
      have hlt3 := HLT3.out
      have hat7 := HB7.out.row HAT3.out (HLOC.out _ (by omega) (by omega))
      have hwho7 := HB7.out.row HWHO3.out (HLOC.out _ (by omega) (by omega))
      have hv7 := HB7.out.row HV3.out (HLOC.out _ (by omega) (by omega))
      have m0 := hm7.cell 0
      have m1 := hm7.cell 1
      have a0 := hat7.cell 0
      have a1 := hat7.cell 1
      have a2 := hat7.cell 2
      have b0 := hwho7.cell 0
      have b1 := hwho7.cell 1
      have v0 := hv7.cell 0
      have v1 := hv7.cell 1
      have v2 := hv7.cell 2
      have p3 := HR7.out.cell 3
      simp only [List.getElem?_cons_zero, List.getElem?_cons_succ] at m0 m1 a0 a1 a2 b0 b1 v0 v1 v2 p3
      clear hm7 hat7 hwho7 hv7 hlt3
      go_still_tail 11, (by kernel_rfl)
      change wpList _ _ _ _ _ w7.drew
      clear m0 m1 a0 a1 a2 b0 b1 v0 v1 v2 p3
      have HB8 : Hid (But (three bp gb sb) w3 w7.drew) := Lib.hid (HB7.out.drewN 1)
      have HR8 := Lib.hid HR7.out.drew
      have HG8 := Lib.hid (World.ownsRow.drew HG7.out)
      have HS8 := Lib.hid (World.ownsRow.drew HS7.out)
      have HM8 := Lib.hid HM7.out.drew
      clear HB7 HR7 HG7 HS7 HM7
      generalize w7.drew = w8 at *
      go_upto_region 19 with fail
      have HB9 := Lib.hid (HB8.out.alloc (.cells #[.int .u32 ((i : Int) + 1), .int .u32 (g + 1), .int .u32 hs, .int .u32 hg, .int .u32 k.s, .int .u32 k.g, .int .i64 k.d, .int .i64 arm, .int .i64 vn, .int .u32 vs, .int .u32 vg, .int .i64 (B.put + 1), .pointer none, .pointer none] 98))
      have HR9 := Lib.hid (HR8.out.alloc (.cells #[.int .u32 ((i : Int) + 1), .int .u32 (g + 1), .int .u32 hs, .int .u32 hg, .int .u32 k.s, .int .u32 k.g, .int .i64 k.d, .int .i64 arm, .int .i64 vn, .int .u32 vs, .int .u32 vg, .int .i64 (B.put + 1), .pointer none, .pointer none] 98))
      have HG9 := Lib.hid (HG8.out.alloc (.cells #[.int .u32 ((i : Int) + 1), .int .u32 (g + 1), .int .u32 hs, .int .u32 hg, .int .u32 k.s, .int .u32 k.g, .int .i64 k.d, .int .i64 arm, .int .i64 vn, .int .u32 vs, .int .u32 vg, .int .i64 (B.put + 1), .pointer none, .pointer none] 98))
      have HS9 := Lib.hid (HS8.out.alloc (.cells #[.int .u32 ((i : Int) + 1), .int .u32 (g + 1), .int .u32 hs, .int .u32 hg, .int .u32 k.s, .int .u32 k.g, .int .i64 k.d, .int .i64 arm, .int .i64 vn, .int .u32 vs, .int .u32 vg, .int .i64 (B.put + 1), .pointer none, .pointer none] 98))
      have HM9 := Lib.hid (HM8.out.alloc (.cells #[.int .u32 ((i : Int) + 1), .int .u32 (g + 1), .int .u32 hs, .int .u32 hg, .int .u32 k.s, .int .u32 k.g, .int .i64 k.d, .int .i64 arm, .int .i64 vn, .int .u32 vs, .int .u32 vg, .int .i64 (B.put + 1), .pointer none, .pointer none] 98))
      have HN9 := Lib.hid (Row.new w8 98 [.int .u32 ((i : Int) + 1), .int .u32 (g + 1), .int .u32 hs, .int .u32 hg, .int .u32 k.s, .int .u32 k.g, .int .i64 k.d, .int .i64 arm, .int .i64 vn, .int .u32 vs, .int .u32 vg, .int .i64 (B.put + 1), .pointer none, .pointer none])
      change Hid (Row (w8.alloc (.cells #[.int .u32 ((i : Int) + 1), .int .u32 (g + 1), .int .u32 hs, .int .u32 hg, .int .u32 k.s, .int .u32 k.g, .int .i64 k.d, .int .i64 arm, .int .i64 vn, .int .u32 vs, .int .u32 vg, .int .i64 (B.put + 1), .pointer none, .pointer none] 98)) _ _ _) at HN9
      have HXB : Hid (w3.heap.size ≤ w8.heap.size) := Lib.hid HB8.out.size
      have HZX : Hid (zm < w8.heap.size) := Lib.hid HM8.out.lt
      clear HB8 HR8 HG8 HS8 HM8
      generalize w8.alloc (.cells #[.int .u32 ((i : Int) + 1), .int .u32 (g + 1), .int .u32 hs, .int .u32 hg, .int .u32 k.s, .int .u32 k.g, .int .i64 k.d, .int .i64 arm, .int .i64 vn, .int .u32 vs, .int .u32 vg, .int .i64 (B.put + 1), .pointer none, .pointer none] 98) = w9 at *
      generalize w8.heap.size = xb at *
      have p1 := HR9.out.cell 1
      have s1 := HS9.out.frozenAt i
      have s2 := HS9.out.cellAt i (by omega)
      rw [slotCells_get (by have := HGE1.out.2; have := HN1E.out; omega)] at s2
      simp only [List.getElem?_cons_zero, List.getElem?_cons_succ] at p1
      go_upto_region 20 with fail
      have hxb := HXB.out
      have hzx := HZX.out
      have hzm := HZM.out
      have hsx : sb ≠ xb := by omega
      have hsz : sb ≠ zm := by omega
      have HB10 := Lib.hid (HB9.out.set ⟨sb, i, none⟩ (.pointer (some ⟨xb, 0, none⟩)) (.inr (.inr rfl)))
      have HR10 := Lib.hid (HR9.out.far (p := ⟨sb, i, none⟩) (v := .pointer (some ⟨xb, 0, none⟩)) hsbp.symm)
      have HG10 := Lib.hid (own_set_ne (b := sb) (o := i) (x := .pointer (some ⟨xb, 0, none⟩)) HG9.out (fun e => hgsb (Option.some.inj e)))
      have HS10 := Lib.hid (HS9.out.stored i (.pointer (some ⟨xb, 0, none⟩))).1
      have HM10 := Lib.hid (HM9.out.far (p := ⟨sb, i, none⟩) (v := .pointer (some ⟨xb, 0, none⟩)) hsz.symm)
      have HN10 := Lib.hid (HN9.out.far (p := ⟨sb, i, none⟩) (v := .pointer (some ⟨xb, 0, none⟩)) hsx.symm)
      clear HB9 HR9 HG9 HS9 HM9 HN9 p1 s1 s2 hxb hzx hzm
      generalize w9.setCell ⟨sb, i, none⟩ (.pointer (some ⟨xb, 0, none⟩)) = w10 at *
      have HMAP10 : Hid (RMap w10 B.mp B.mn (rowOf B.N)) := Lib.hid (by
        have hm := H3.out.mem.map
        rw [HMP1.out, HMN1.out, HN1.out] at hm
        refine hm.move (HB10.out.block _ hm.lt ?_)
        have t := H3.out.ok.t1
        rw [HMP1.out] at t
        rintro (e | e | e)
        · have t0 := H3.out.ok.t0
          rw [← e, t] at t0; cases t0
        · have t0 := H3.out.ok.t3 gb (by rw [HGV.out]; rfl)
          rw [← e, t] at t0; cases t0
        · have t0 := H3.out.ok.t2 sb (by rw [HSV.out]; rfl)
          rw [← e, t] at t0; cases t0)
      have hlt3 := HLT3.out
      have HAT10 := Lib.hid (HB10.out.row HAT3.out (HLOC.out _ (by omega) (by omega)))
      have HRES10 := Lib.hid (HB10.out.row HRES3.out (HLOC.out _ (by omega) (by omega)))
      have HZ3 : Hid (w.heap.size + 3 < w3.heap.size) := Lib.hid HRES3.out.lt
      have p0 := HR10.out.cell 0
      have a0 := HAT10.out.cell 0
      have a1 := HAT10.out.cell 1
      have a2 := HAT10.out.cell 2
      simp only [List.getElem?_cons_zero, List.getElem?_cons_succ] at a0 a1 a2 p0
      rw [HMP1.out] at p0
      have HL : Hid (∀ d, (Instr.lookup 70 (.map (some B.mp)) (.agg #[.int .u32 k.s, .int .u32 k.g, .int .i64 k.d]) false).run Try.prog (w10.drewN d) = .ok (pt (rowOf B.N k)) (w10.drewN d)) :=
        Lib.hid fun d => (HMAP10.out.move (w' := w10.drewN d) rfl).find HKO.out.key
      clear HAT3 HWHO3 HV3 HRES3 hlt3 HLOC
      have hro : rowOf B.N k = none := by unfold rowOf; rw [HROW.out]; rfl
      rw [hro] at HL
      have hl := HL.out
      simp only [pt] at hl
      have hl0 := hl 0
      rw [World.drewN_zero] at hl0
      clear hro HL
      go_quiet (fail)
      have HB11 := Lib.hid (HB10.out.drewN nq)
      have HR11 := Lib.hid (HR10.out.drewN nq)
      have HG11 := Lib.hid (own_move (w' := w10.drewN nq) HG10.out fun _ _ => rfl)
      have HS11 := Lib.hid (own_move (w' := w10.drewN nq) HS10.out fun _ _ => rfl)
      have HM11 := Lib.hid (HM10.out.drewN nq)
      have HN11 := Lib.hid (HN10.out.drewN nq)
      have HAT11 := Lib.hid (HAT10.out.drewN nq)
      have HRES11 := Lib.hid (HRES10.out.drewN nq)
      have HMAP11 := Lib.hid (HMAP10.out.move (w' := w10.drewN nq) rfl)
      clear hl hl0 HB10 HR10 HG10 HS10 HM10 HN10 HAT10 HRES10 HMAP10 p0 a0 a1 a2
      generalize w10.drewN nq = w11 at *
      have hez := fun w => (show (binOp .eql 91 (.pointer none) (.pointer none)).run Try.prog w = .ok (.bool true) w by kernel_rfl)
      go_upto_region 23 with fail
      have HB12 := Lib.hid (HB11.out.alloc (.cells #[.pointer none, .pointer none] 94))
      have HR12 := Lib.hid (HR11.out.alloc (.cells #[.pointer none, .pointer none] 94))
      have HG12 := Lib.hid (HG11.out.alloc (.cells #[.pointer none, .pointer none] 94))
      have HS12 := Lib.hid (HS11.out.alloc (.cells #[.pointer none, .pointer none] 94))
      have HM12 := Lib.hid (HM11.out.alloc (.cells #[.pointer none, .pointer none] 94))
      have HN12 := Lib.hid (HN11.out.alloc (.cells #[.pointer none, .pointer none] 94))
      have HAT12 := Lib.hid (HAT11.out.alloc (.cells #[.pointer none, .pointer none] 94))
      have HRES12 := Lib.hid (HRES11.out.alloc (.cells #[.pointer none, .pointer none] 94))
      have HMAP12 := Lib.hid (HMAP11.out.kept (row := none) (World.grownBy_alloc w11 (.cells #[.pointer none, .pointer none] 94) none) (by simp))
      have HW12 := Lib.hid (Row.new w11 94 [.pointer none, .pointer none])
      change Hid (Row (w11.alloc (.cells #[.pointer none, .pointer none] 94)) _ _ _) at HW12
      have HRB : Hid (xb < w11.heap.size) := Lib.hid HN11.out.lt
      clear HB11 HR11 HG11 HS11 HM11 HN11 HAT11 HRES11 HMAP11
      generalize w11.alloc (.cells #[.pointer none, .pointer none] 94) = w12 at *
      generalize w11.heap.size = rb at *
      have p0 := HR12.out.cell 0
      have a0 := HAT12.out.cell 0
      have a1 := HAT12.out.cell 1
      have a2 := HAT12.out.cell 2
      simp only [List.getElem?_cons_zero, List.getElem?_cons_succ] at a0 a1 a2 p0
      rw [HMP1.out] at p0
      go_still_tail 6, (by kernel_rfl)
      change wpList _ _ _ _ _ w12.drew
      obtain ⟨w14, hrun, hgw, hm14⟩ := (HMAP12.out.move (w' := w12.drew) rfl).put (by have := HB3.out; unfold maxLen; omega) HKO.out.key rb
      have hrun : (Instr.mapUpdate 70 (.map (some B.mp)) (.agg #[.int .u32 k.s, .int .u32 k.g, .int .i64 k.d]) (.pointer (some ⟨rb, 0, none⟩))).run Try.prog w12.drew = .ok () w14 := hrun
      have hk14 : ∀ b, b < w12.heap.size → b ≠ B.mp → w14.heap[b]? = w12.heap[b]? := fun b hb hne => hgw.block b hb (fun e => hne (Option.some.inj e))
      have hmpl : B.mp < w3.heap.size := by have := H3.out.mem.map.lt; rw [HMP1.out] at this; exact this
      have hmt : B1.tag B.mp = 1 := by have := H3.out.ok.t1; rw [HMP1.out] at this; exact this
      have hbm : bp ≠ B.mp := fun e => by have := H3.out.ok.t0; rw [e, hmt] at this; cases this
      have hgm : gb ≠ B.mp := fun e => by have := H3.out.ok.t3 gb (by rw [HGV.out]; rfl); rw [e, hmt] at this; cases this
      have hsm : sb ≠ B.mp := fun e => by have := H3.out.ok.t2 sb (by rw [HSV.out]; rfl); rw [e, hmt] at this; cases this
      have hrb := HRB.out
      have hxb := HXB.out
      have hzx := HZX.out
      have hzm := HZM.out
      have hz3 := HZ3.out
      have hlt3 := HLT3.out
      have HB14 : Hid (But (fun b => three bp gb sb b ∨ b = B.mp) w3 w14) := Lib.hid ⟨hgw.os.trans HB12.out.os, hgw.tape.trans HB12.out.tape, hgw.output.trans HB12.out.output, Nat.le_trans HB12.out.size hgw.size, fun b hb hn => (hk14 b (Nat.lt_of_lt_of_le hb HB12.out.size) (fun e => hn (.inr e))).trans (HB12.out.block b hb (fun e => hn (.inl e)))⟩
      have HR14 : Hid (Row w14 bp 74 _) := Lib.hid ((hk14 _ HR12.out.lt hbm).trans HR12.out)
      have HG14 := Lib.hid (own_move HG12.out fun b hb => hk14 b (HG12.out.lt b hb).2 (fun e => hgm ((Option.some.inj hb).trans e)))
      have HS14 := Lib.hid (own_move HS12.out fun b hb => hk14 b (HS12.out.lt b hb).2 (fun e => hsm ((Option.some.inj hb).trans e)))
      have HM14 : Hid (Row w14 zm 35 _) := Lib.hid ((hk14 _ HM12.out.lt (by omega)).trans HM12.out)
      have HN14 : Hid (Row w14 xb 98 _) := Lib.hid ((hk14 _ HN12.out.lt (by omega)).trans HN12.out)
      have HRES14 : Hid (Row w14 (w.heap.size + 3) 35 _) := Lib.hid ((hk14 _ HRES12.out.lt (fun e => HLO.out (w.heap.size + 3) (by omega) (by omega) (by rw [e]; exact .inr (.inl HMP1.out.symm)))).trans HRES12.out)
      have HW14 : Hid (Row w14 rb 94 _) := Lib.hid ((hk14 _ HW12.out.lt (by omega)).trans HW12.out)
      have HMAP14 := Lib.hid hm14
      clear HB12 HR12 HG12 HS12 HM12 HN12 HRES12 HW12 HMAP12 HAT12 hk14 hm14 hgw hmt hbm hgm hsm hrb hxb hzx hzm hz3 hlt3 hmpl
      go_upto_region 24 with fail
      clear hrun
      have hrb := HRB.out
      have hxb := HXB.out
      have hzx := HZX.out
      have hzm := HZM.out
      have hz3 := HZ3.out
      have hlt3 := HLT3.out
      have hmpl : B.mp < w3.heap.size := by have := H3.out.mem.map.lt; rw [HMP1.out] at this; exact this
      have r1 := HW14.out.cell 1
      have n12 := HN14.out.cell 12
      have m12 := HN14.out.frozen 12
      simp only [List.getElem?_cons_zero, List.getElem?_cons_succ] at r1 n12
      go_upto_region 25 with fail
      clear r1 n12 m12
      have HB15 := Lib.hid (HB14.out.setNew ⟨xb, 12, none⟩ (.pointer none) hxb)
      have HR15 := Lib.hid (HR14.out.far (p := ⟨xb, 12, none⟩) (v := .pointer none) (show bp ≠ xb by omega))
      have HG15 := Lib.hid (own_set_ne (b := xb) (o := 12) (x := .pointer none) HG14.out (fun e => (show gb ≠ xb by omega) (Option.some.inj e)))
      have HS15 := Lib.hid (own_set_ne (b := xb) (o := 12) (x := .pointer none) HS14.out (fun e => (show sb ≠ xb by omega) (Option.some.inj e)))
      have HM15 := Lib.hid (HM14.out.far (p := ⟨xb, 12, none⟩) (v := .pointer none) (show zm ≠ xb by omega))
      have hHN := HN14.out.set 12 (.pointer none)
      simp only [List.set_cons_zero, List.set_cons_succ] at hHN
      have HN15 := Lib.hid hHN
      clear hHN
      have HRES15 := Lib.hid (HRES14.out.far (p := ⟨xb, 12, none⟩) (v := .pointer none) (show w.heap.size + 3 ≠ xb by omega))
      have HW15 := Lib.hid (HW14.out.far (p := ⟨xb, 12, none⟩) (v := .pointer none) (show rb ≠ xb by omega))
      have HMAP15 := Lib.hid (HMAP14.out.set_ne (p := xb) (o := 12) (x := .pointer none) (show B.mp ≠ xb by omega))
      clear HB14 HR14 HG14 HS14 HM14 HN14 HRES14 HW14 HMAP14
      generalize w14.setCell ⟨xb, 12, none⟩ (.pointer none) = w15 at *
      have r1 := HW15.out.cell 1
      have r0 := HW15.out.cell 0
      have t0 := HW15.out.frozen 0
      simp only [List.getElem?_cons_zero, List.getElem?_cons_succ] at r1 r0
      have hen := run_eql_nil_nil
      go_upto_region 28 with fail
      clear r1 r0 t0 hen
      have HB16 := Lib.hid (HB15.out.setNew ⟨rb, 0, none⟩ (.pointer (some ⟨xb, 0, none⟩)) (show w3.heap.size ≤ rb by omega))
      have HR16 := Lib.hid (HR15.out.far (p := ⟨rb, 0, none⟩) (v := .pointer (some ⟨xb, 0, none⟩)) (show bp ≠ rb by omega))
      have HG16 := Lib.hid (own_set_ne (b := rb) (o := 0) (x := .pointer (some ⟨xb, 0, none⟩)) HG15.out (fun e => (show gb ≠ rb by omega) (Option.some.inj e)))
      have HS16 := Lib.hid (own_set_ne (b := rb) (o := 0) (x := .pointer (some ⟨xb, 0, none⟩)) HS15.out (fun e => (show sb ≠ rb by omega) (Option.some.inj e)))
      have HM16 := Lib.hid (HM15.out.far (p := ⟨rb, 0, none⟩) (v := .pointer (some ⟨xb, 0, none⟩)) (show zm ≠ rb by omega))
      have HN16 := Lib.hid (HN15.out.far (p := ⟨rb, 0, none⟩) (v := .pointer (some ⟨xb, 0, none⟩)) (show xb ≠ rb by omega))
      have HRES16 := Lib.hid (HRES15.out.far (p := ⟨rb, 0, none⟩) (v := .pointer (some ⟨xb, 0, none⟩)) (show w.heap.size + 3 ≠ rb by omega))
      have hHW := HW15.out.set 0 (.pointer (some ⟨xb, 0, none⟩))
      simp only [List.set_cons_zero, List.set_cons_succ] at hHW
      have HW16 := Lib.hid hHW
      clear hHW
      have HMAP16 := Lib.hid (HMAP15.out.set_ne (p := rb) (o := 0) (x := .pointer (some ⟨xb, 0, none⟩)) (show B.mp ≠ rb by omega))
      clear HB15 HR15 HG15 HS15 HM15 HN15 HRES15 HW15 HMAP15
      generalize w15.setCell ⟨rb, 0, none⟩ (.pointer (some ⟨xb, 0, none⟩)) = w16 at *
      have r1 := HW16.out.cell 1
      have t0 := HW16.out.frozen 1
      simp only [List.getElem?_cons_zero, List.getElem?_cons_succ] at r1
      go_upto_region 29 with fail
      clear r1 t0
      have HB17 := Lib.hid (HB16.out.setNew ⟨rb, 1, none⟩ (.pointer (some ⟨xb, 0, none⟩)) (show w3.heap.size ≤ rb by omega))
      have HR17 := Lib.hid (HR16.out.far (p := ⟨rb, 1, none⟩) (v := .pointer (some ⟨xb, 0, none⟩)) (show bp ≠ rb by omega))
      have HG17 := Lib.hid (own_set_ne (b := rb) (o := 1) (x := .pointer (some ⟨xb, 0, none⟩)) HG16.out (fun e => (show gb ≠ rb by omega) (Option.some.inj e)))
      have HS17 := Lib.hid (own_set_ne (b := rb) (o := 1) (x := .pointer (some ⟨xb, 0, none⟩)) HS16.out (fun e => (show sb ≠ rb by omega) (Option.some.inj e)))
      have HM17 := Lib.hid (HM16.out.far (p := ⟨rb, 1, none⟩) (v := .pointer (some ⟨xb, 0, none⟩)) (show zm ≠ rb by omega))
      have HN17 := Lib.hid (HN16.out.far (p := ⟨rb, 1, none⟩) (v := .pointer (some ⟨xb, 0, none⟩)) (show xb ≠ rb by omega))
      have HRES17 := Lib.hid (HRES16.out.far (p := ⟨rb, 1, none⟩) (v := .pointer (some ⟨xb, 0, none⟩)) (show w.heap.size + 3 ≠ rb by omega))
      have hHW := HW16.out.set 1 (.pointer (some ⟨xb, 0, none⟩))
      simp only [List.set_cons_zero, List.set_cons_succ] at hHW
      have HW17 := Lib.hid hHW
      clear hHW
      have HMAP17 := Lib.hid (HMAP16.out.set_ne (p := rb) (o := 1) (x := .pointer (some ⟨xb, 0, none⟩)) (show B.mp ≠ rb by omega))
      clear HB16 HR16 HG16 HS16 HM16 HN16 HRES16 HW16 HMAP16
      generalize w16.setCell ⟨rb, 1, none⟩ (.pointer (some ⟨xb, 0, none⟩)) = w17 at *
      have m0 := HM17.out.cell 0
      have m1 := HM17.out.cell 1
      have d0 := HRES17.out.cell 0
      have d1 := HRES17.out.cell 1
      have f0 := HRES17.out.frozen 0
      have f1 := HRES17.out.frozen 1
      simp only [List.getElem?_cons_zero, List.getElem?_cons_succ] at m0 m1 d0 d1
      go_wp2_with fail
      have hfin := HRES17.out.store2 (a := .int .u32 ((i : Int) + 1)) (c := .int .u32 (g + 1))
      (try simp only [Exit.inBlock, Exit.then]); refine bodyPost_ret (results_cell2_row rfl _ _ (w.heap.size + 3) 35 #[.int .u32 ((i : Int) + 1), .int .u32 (g + 1)] (0, 0) _ rfl hfin Try.underlying35 rfl (by kernel_rfl)) rfl ?_
      have hE : inRow k B.N = [] := HROW.out
      refine put_end (xb := xb) (rb := rb) (mn := B.mn + 1) HTO.out HN1.out HP1.out HMP1.out HFREE.out HLEAST.out HGI.out HB2.out (by have := HB3.out; omega) (Nat.le_refl _) HGE1.out.1 HKO.out hxb (.inr ⟨fun y hy e => ?_, by omega, by omega⟩) ?_ ?_ HMAP17.out ?_ ?_ ?_ ?_ ?_ (by omega) (HLO.out (w.heap.size + 3) (by omega) (by omega)) (by omega)
      · have := mem_inRow hy e; rw [hE] at this; cases this
      · refine HB17.out.weaken ?_
        rintro b ((e | e | e) | e)
        · exact .inl e
        · exact .inr (.inr (.inr (.inl (by rw [HGV.out, e]; rfl))))
        · exact .inr (.inr (.inl (by rw [HSV.out, e]; rfl)))
        · exact .inr (.inl (e.trans HMP1.out.symm))
      · rw [HSV.out, HGV.out]; exact HR17.out
      · rw [HSV.out, HN1E.out]; have := HS17.out; rw [HN1.out] at this; exact this
      · rw [HGV.out, HN1E.out]; exact HG17.out
      · rw [hE]; exact HN17.out
      · rw [hE]; exact HW17.out
      · intro y hy; rw [hE] at hy; cases hy
end Go.Proofs.Ytkdiibgjkipdnaa
