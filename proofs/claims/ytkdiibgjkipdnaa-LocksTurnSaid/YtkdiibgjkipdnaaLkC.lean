/-
  park, wake, Holder, Counter of locks.
-/
import Derived.Test.YtkdiibgjkipdnaaLkB
namespace Go.Proofs.Ytkdiibgjkipdnaa
open Go.RowKit Go.Maps
set_option linter.unusedSimpArgs false

/-- a wait that parks: Put in one word -/
structure Parks (w : World) (bp : Nat) (B : Bk) (k : Key) (hs hg : Int) (w' : World) (B' : Bk) (x : Nd) : Prop where
  bk : BookTo w bp B w' B'
  N : B'.N = B.N ++ [x]
  ser : x.ser = B.put + 1
  hs : x.rc.hs = hs
  hg : x.rc.hg = hg
  key : x.rc.key = k
  arm : x.rc.arm = 0
  put : B'.put = B.put + 1
  mn : B'.mn ≤ B.mn + 1
  gens : B'.gens.length ≤ B.gens.length + 1
theorem putIn_c (bp : Nat) (B : Bk) (k : Key) (hs hg : Int) (w : World) (h : BookAt w bp B) (hk : k.Ok) (hsw : (Lit.int .u32 hs).wf = true) (hgw : (Lit.int .u32 hg).wf = true) (hz : sameH hs hg 0 0 = false) (hd : ¬ (k.d < 1 ∨ 4 < k.d)) (hno : ∀ x ∈ B.N, hits hs hg 0 x = false)
    (hgl : B.gens.length ≤ 99999) (hpl : B.put ≤ 99999) (hml : B.mn ≤ 99999) (hnl : B.N.length ≤ 99999) :
    Calls Try.prog 23 #[.pointer (some ⟨bp, 0, none⟩), .agg #[.int .u32 k.s, .int .u32 k.g, .int .i64 k.d], .agg #[.int .u32 hs, .int .u32 hg], .int .i64 0, .agg #[.int .i64 0, .int .u32 0, .int .u32 0]] w fun e w' =>
      ∃ v B' x, e = .returned v ∧ Parks w bp B k hs hg w' B' x := by
  have hrc : PutOk k hs hg 0 0 0 0 := ⟨hk, hsw, hgw, rfl, rfl, rfl, rfl⟩
  have hgo : ∀ e w', PutTo w bp B k hs hg 0 0 0 0 e w' → ∃ v B' x, e = .returned v ∧ Parks w bp B k hs hg w' B' x := by
    rintro e w' ⟨i, B', x, g, rfl, hto, hN, hser, hput, hmn, hrc, hgi, hgens, hsl, _⟩
    refine ⟨_, B', x, rfl, hto, hN, hser, by rw [hrc], by rw [hrc], by rw [hrc]; rfl, by rw [hrc], hput, hmn, ?_⟩
    rw [hgens, List.length_set]
    unfold grow
    split
    · exact Nat.le_succ _
    · rw [List.length_append]; exact Nat.le_refl _
  cases hl : (inRow k B.N).getLast? with
  | none => exact (putNew_c bp B k hs hg 0 0 0 0 w h hz hd hno hrc hgl hpl hml hnl (List.getLast?_eq_none_iff.1 hl)).mono hgo
  | some y => exact (putOld_c bp B k hs hg 0 0 0 0 w h hz hd hno hrc hgl hpl hml hnl y hl).mono hgo
/-- a store of a whole Did -/
theorem Row.store6 {w : World} {b e : Nat} {x0 x1 x2 x3 x4 x5 : Value} (h : Row w b e [x0, x1, x2, x3, x4, x5]) (v0 v1 v2 v3 v4 v5 : Value) :
    Row ((((((w.setCell ⟨b, 0, none⟩ v0).setCell ⟨b, 1, none⟩ v1).setCell ⟨b, 2, none⟩ v2).setCell ⟨b, 3, none⟩ v3).setCell ⟨b, 4, none⟩ v4).setCell ⟨b, 5, none⟩ v5) b e [v0, v1, v2, v3, v4, v5] :=
  ((((((h.set 0 _).set 1 _).set 2 _).set 3 _).set 4 _).set 5 _)
theorem BookTo.store1 {w w' : World} {bp : Nat} {B B' : Bk} (k : BookTo w bp B w' B') {z : Nat} (hz : w.heap.size ≤ z) (hzo : ¬ B'.own bp z) (j : Nat) (a : Value) : BookTo w bp B (w'.setCell ⟨z, j, none⟩ a) B' := by
  have hb : But (fun x => x = z) w' (w'.setCell ⟨z, j, none⟩ a) := But.set (S := fun x => x = z) (But.refl (fun x => x = z) w') ⟨z, j, none⟩ a rfl
  exact ⟨k.at_.but hb (fun x hx e => hzo (by rw [← e]; exact hx)), k.but.setNew ⟨z, j, none⟩ a hz, k.own⟩
theorem BookTo.store6 {w w' : World} {bp : Nat} {B B' : Bk} (k : BookTo w bp B w' B') {z : Nat} (hz : w.heap.size ≤ z) (hzo : ¬ B'.own bp z) (v0 v1 v2 v3 v4 v5 : Value) :
    BookTo w bp B ((((((w'.setCell ⟨z, 0, none⟩ v0).setCell ⟨z, 1, none⟩ v1).setCell ⟨z, 2, none⟩ v2).setCell ⟨z, 3, none⟩ v3).setCell ⟨z, 4, none⟩ v4).setCell ⟨z, 5, none⟩ v5) B' :=
  (((((k.store1 hz hzo 0 v0).store1 hz hzo 1 v1).store1 hz hzo 2 v2).store1 hz hzo 3 v3).store1 hz hzo 4 v4).store1 hz hzo 5 v5
/-- a block of the call's own, that is no block of the book's, stays so and keeps what it holds -/
theorem BookTo.keep {w w' : World} {bp z e : Nat} {B B' : Bk} {vs : List Value} (k : BookTo w bp B w' B') (hr : Row w z e vs) (hz : ¬ B.own bp z) : Row w' z e vs ∧ ¬ B'.own bp z :=
  ⟨k.but.row hr hz, fun h => (k.own z h).elim hz (fun q => by have := hr.lt; omega)⟩
abbrev zDid : Obj := .cells #[.int .i64 0, .int .i64 0, .int .u32 0, .int .u32 0, .bool false, .slice none 0 0] 46
theorem Row.at6 {w : World} {b e : Nat} {x0 x1 x2 x3 x4 x5 : Value} (h : Row w b e [x0, x1, x2, x3, x4, x5]) : (w.cell? ⟨b, 0, none⟩ = some x0 ∧ w.cell? ⟨b, 1, none⟩ = some x1 ∧ w.cell? ⟨b, 2, none⟩ = some x2 ∧ w.cell? ⟨b, 3, none⟩ = some x3 ∧ w.cell? ⟨b, 4, none⟩ = some x4 ∧ w.cell? ⟨b, 5, none⟩ = some x5) ∧ w.frozen? ⟨b, 0, none⟩ = false ∧ w.frozen? ⟨b, 1, none⟩ = false ∧ w.frozen? ⟨b, 2, none⟩ = false ∧ w.frozen? ⟨b, 3, none⟩ = false ∧ w.frozen? ⟨b, 4, none⟩ = false ∧ w.frozen? ⟨b, 5, none⟩ = false :=
  ⟨⟨h.cell 0, h.cell 1, h.cell 2, h.cell 3, h.cell 4, h.cell 5⟩, h.frozen 0, h.frozen 1, h.frozen 2, h.frozen 3, h.frozen 4, h.frozen 5⟩
set_option maxHeartbeats 2000000 in
set_option maxRecDepth 100000 in
theorem park_c (lp mp bp mn : Nat) (f : Int → Int → Value) (B : Bk) (s g sd hs hg : Int) (w : World) (h : LkAt w lp mp bp mn f B) (hk : Key.Ok ⟨s, g, sd⟩) (hsw : (Lit.int .u32 hs).wf = true) (hgw : (Lit.int .u32 hg).wf = true) (hz : sameH hs hg 0 0 = false) (hd : ¬ (sd < 1 ∨ 4 < sd)) (hno : ∀ x ∈ B.N, hits hs hg 0 x = false)
    (hgl : B.gens.length ≤ 99999) (hpl : B.put ≤ 99999) (hml : B.mn ≤ 99999) (hnl : B.N.length ≤ 99999) :
    Calls Try.prog 20 #[.pointer (some ⟨lp, 0, none⟩), .agg #[.int .u32 s, .int .u32 g], .int .i64 sd, .agg #[.int .u32 hs, .int .u32 hg]] w fun e w' =>
      e = .returned (.tuple #[didV 1 (.slice none 0 0), .int .i64 0]) ∧ ∃ B' x, Parks w bp B ⟨s, g, sd⟩ hs hg w' B' x := by
  have hA : Below w.heap.size w (((w.alloc (.cells #[.int .u32 s, .int .u32 g] 35)).alloc (.cells #[.int .u32 hs, .int .u32 hg] 35)).alloc zDid) := (((Below.refl _ _).alloc (Nat.le_refl _) _).alloc (by simp) _).alloc (by simp; omega) _
  have hR := ((Row.new w 35 [.int .u32 s, .int .u32 g]).alloc (.cells #[.int .u32 hs, .int .u32 hg] 35)).alloc zDid
  have hM := (Row.new (w.alloc (.cells #[.int .u32 s, .int .u32 g] 35)) 35 [.int .u32 hs, .int .u32 hg]).alloc zDid
  have hZ := Row.new ((w.alloc (.cells #[.int .u32 s, .int .u32 g] 35)).alloc (.cells #[.int .u32 hs, .int .u32 hg] 35)) 46 [.int .i64 0, .int .i64 0, .int .u32 0, .int .u32 0, .bool false, .slice none 0 0]
  rw [show (w.alloc (.cells #[.int .u32 s, .int .u32 g] 35)).heap.size = w.heap.size + 1 by simp] at hM
  rw [show ((w.alloc (.cells #[.int .u32 s, .int .u32 g] 35)).alloc (.cells #[.int .u32 hs, .int .u32 hg] 35)).heap.size = w.heap.size + 1 + 1 by simp] at hZ
  change Row (((w.alloc (.cells #[.int .u32 s, .int .u32 g] 35)).alloc (.cells #[.int .u32 hs, .int .u32 hg] 35)).alloc zDid) _ _ _ at hR hM hZ
  have H := Lib.hid (h.below hA)
  have H0 := Lib.hid h.book
  have HA := Lib.hid hA
  have HZ := Lib.hid hZ
  have r0 := hR.cell 0
  have r1 := hR.cell 1
  have m0 := hM.cell 0
  have m1 := hM.cell 1
  have c0 := H.out.obj.cell 0
  dsimp only [List.getElem?_cons_zero, List.getElem?_cons_succ] at r0 r1 m0 m1 c0
  have HNO := Lib.hid (fun e => by have := h.book.mem.lt e; omega : ¬ B.own bp (w.heap.size + 1 + 1))
  have CP := Lib.hid (fun d => putIn_c bp B ⟨s, g, sd⟩ hs hg (((((w.alloc (.cells #[.int .u32 s, .int .u32 g] 35)).alloc (.cells #[.int .u32 hs, .int .u32 hg] 35)).alloc zDid)).drewN d) (H.out.book.below (below_drewN (Below.refl _ _) d)) hk hsw hgw hz hd hno hgl hpl hml hnl)
  clear h hA hR hM hZ hk hsw hgw hz hd hno hgl hpl hml hnl
  go_enter Try.func20, Try.ntmps20
  go_upto_region 1 with fail
  generalize ((w.alloc (.cells #[.int .u32 s, .int .u32 g] 35)).alloc (.cells #[.int .u32 hs, .int .u32 hg] 35)).alloc zDid = w1 at *
  have CP1 := Lib.hid (CP.out 1)
  clear CP
  go_still_tail 9, (by kernel_rfl)
  change wpList _ _ _ _ _ w1.drew
  go_wp2_with fail
  refine CP1.out.mono ?_
  rintro e w2 ⟨v, B', x, rfl, hp⟩
  have HP := Lib.hid hp
  obtain ⟨hz2, hno2⟩ := hp.bk.keep (Row.drew HZ.out) HNO.out
  have HZ2 := Lib.hid hz2
  have HNO2 := Lib.hid hno2
  obtain ⟨z, hzz⟩ : ∃ z, w.heap.size + 1 + 1 = z := ⟨_, rfl⟩
  rw [hzz] at HZ2 HNO2 ⊢
  have hzl : w.heap.size ≤ z := by omega
  obtain ⟨⟨z0, z1, z2, z3, z4, z5⟩, f0, f1, f2, f3, f4, f5⟩ := HZ2.out.at6
  clear hp hz2 hno2 CP1 hzz r0 r1 m0 m1 c0 HZ HNO
  go_wp2_with fail
  have hfin := HZ2.out.store6 (.int .i64 1) (.int .i64 0) (.int .u32 0) (.int .u32 0) (.bool false) (.slice none 0 0)
  (try simp only [Exit.inBlock, Exit.then]); refine bodyPost_ret (results_cell2_row rfl _ _ z 46 #[.int .i64 1, .int .i64 0, .int .u32 0, .int .u32 0, .bool false, .slice none 0 0] (0, 0) _ rfl hfin Try.underlying46 rfl (by kernel_rfl)) rfl ?_
  have hto : BookTo w bp B w2 B' := BookTo.after (HA.out.trans (Below.drew (Below.refl _ _) |>.mono HA.out.size)) H0.out HP.out.bk
  exact ⟨rfl, B', x, ⟨hto.store6 hzl HNO2.out _ _ _ _ _ _, HP.out.N, HP.out.ser, HP.out.hs, HP.out.hg, HP.out.key, HP.out.arm, HP.out.put, HP.out.mn, HP.out.gens⟩⟩
end Go.Proofs.Ytkdiibgjkipdnaa
