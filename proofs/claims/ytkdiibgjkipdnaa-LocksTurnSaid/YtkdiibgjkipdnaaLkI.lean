/-
  Add that wakes all.
-/
import Derived.Test.YtkdiibgjkipdnaaLkH
namespace Go.Proofs.Ytkdiibgjkipdnaa
open Go.RowKit Go.Maps
set_option linter.unusedSimpArgs false
set_option linter.unusedVariables false

def wakes : List Nd → List Value
  | [] => []
  | x :: l => wakeL x.rc.hs x.rc.hg x.rc.arm ++ wakes l
theorem wakes_len (l : List Nd) : (wakes l).length = l.length * 8 := by
  induction l with
  | nil => rfl
  | cons x l ih => simp only [wakes, List.length_append, List.length_cons, ih, wakeL, List.length_nil]; omega
theorem wakes_append (a b : List Nd) : wakes (a ++ b) = wakes a ++ wakes b := by
  induction a with
  | nil => rfl
  | cons x a ih => simp only [List.cons_append, wakes, ih, List.append_assoc]
theorem wakes_one (x : Nd) : wakes [x] = wakeL x.rc.hs x.rc.hg x.rc.arm := by simp [wakes]
/-- the book without the first j -/
def Bk.from (B : Bk) (j : Nat) : Bk := { B with N := B.N.drop j }
theorem Bk.from_zero (B : Bk) : B.from 0 = B := rfl
theorem Bk.from_own {B : Bk} {j bp k : Nat} (h : (B.from j).own bp k) : B.own bp k := by
  rcases h with h | h | h | h | ⟨x, hx, h⟩
  · exact .inl h
  · exact .inr (.inl h)
  · exact .inr (.inr (.inl h))
  · exact .inr (.inr (.inr (.inl h)))
  · exact .inr (.inr (.inr (.inr ⟨x, List.mem_of_mem_drop hx, h⟩)))
def Apart (N : List Nd) : Prop := N.Pairwise fun x y => sameH y.rc.hs y.rc.hg x.rc.hs x.rc.hg = false
theorem Bk.from_left {B : Bk} {j : Nat} {x : Nd} (ha : Apart B.N) (hx : B.N[j]? = some x) : (B.from j).left x.rc.hs x.rc.hg = B.from (j + 1) := by
  obtain ⟨hj, he⟩ := List.getElem?_eq_some_iff.1 hx
  have hd : B.N.drop j = x :: B.N.drop (j + 1) := by rw [List.drop_eq_getElem_cons hj, he]
  unfold Bk.left Bk.from
  simp only [hd]
  congr 1
  rw [List.filter_cons, if_neg (by simp [sameH_iff.2 ⟨rfl, rfl⟩])]
  rw [List.filter_eq_self]
  intro y hy
  have hp := ha.sublist (List.drop_sublist j B.N)
  rw [hd, List.pairwise_cons] at hp
  rw [hp.1 y hy]; rfl
theorem inRow_all {N : List Nd} {k : Key} (h : ∀ x ∈ N, x.rc.key = k) (j : Nat) : inRow k (N.drop j) = N.drop j := by
  unfold inRow
  rw [List.filter_eq_self]
  intro x hx
  exact decide_eq_true (h x (List.mem_of_mem_drop hx))
theorem head_drop {N : List Nd} (j : Nat) : (N.drop j).head? = N[j]? := by rw [List.head?_drop]
theorem infoWake : (Try.prog.info? 53).map (fun i => (i.zero, i.size, i.bytes)) = some (some (wakeV 0 0 0), 8, 48) := by kernel_rfl
/-- the loop of wakes -/
structure Waking (w wr : World) (lp mp bp mn gb db b8 : Nat) (f : Int → Int → Value) (B : Bk) (s g : Int) (j : Nat) (v : Value) : Prop where
  lk : LkAt wr lp mp bp mn f (B.from j)
  gr : Row wr gb 85 [.int .i64 0]
  of : Row wr w.heap.size 35 [.int .u32 s, .int .u32 g]
  did : Row wr (w.heap.size + 1) 46 didZ
  d : Row wr db 46 [.int .i64 0, .int .i64 0, .int .u32 0, .int .u32 0, .bool false, v]
  own : wr.ownsRow b8 53 8 v j (wakes (B.N.take j))
  but : But (fun k => B.own bp k ∨ k = gb) w wr
  sz : b8 ≤ wr.heap.size
structure Nums (w : World) (lp mp gb db b8 : Nat) (bp : Nat) (B : Bk) : Prop where
  h1 : gb < w.heap.size
  h2 : w.heap.size + 1 < db
  h3 : db < b8
  h4 : ∀ k, B.own bp k → k < w.heap.size
  h5 : ¬ B.own bp gb
  h6 : lp < w.heap.size
  h7 : mp < w.heap.size
theorem Waking.woken {w wr w2 : World} {lp mp bp mn gb db b8 : Nat} {f : Int → Int → Value} {B : Bk} {s g : Int} {j j' : Nat} {v : Value} (h : Waking w wr lp mp bp mn gb db b8 f B s g j v) (hn : Nums w lp mp gb db b8 bp B) (hto : BookTo wr bp (B.from j) w2 (B.from j')) :
    LkAt w2 lp mp bp mn f (B.from j') ∧ Row w2 gb 85 [.int .i64 0] ∧ Row w2 w.heap.size 35 [.int .u32 s, .int .u32 g] ∧ Row w2 (w.heap.size + 1) 46 didZ ∧ Row w2 db 46 [.int .i64 0, .int .i64 0, .int .u32 0, .int .u32 0, .bool false, v] ∧
      w2.ownsRow b8 53 8 v j (wakes (B.N.take j)) ∧ But (fun k => B.own bp k ∨ k = gb) w w2 := by
  have hk : ∀ k, ¬ B.own bp k → ¬ (B.from j).own bp k := fun k hk e => hk (Bk.from_own e)
  have hw : ∀ k, w.heap.size ≤ k → ¬ (B.from j).own bp k := fun k hk1 e => by have := hn.h4 k (Bk.from_own e); omega
  have h2 := hn.h2
  have h3 := hn.h3
  refine ⟨h.lk.to hto, hto.but.row h.gr (hk _ hn.h5), hto.but.row h.of (hw _ (Nat.le_refl _)), hto.but.row h.did (hw _ (by omega)), hto.but.row h.d (hw _ (by omega)), own_move h.own fun g hg => hto.but.block g (h.own.lt g hg).2 (hw g (by have := (h.own.lt g hg).1; omega)), ?_⟩
  exact h.but.trans (hto.but.wide fun k hk => .inl (Bk.from_own hk))
theorem LkAt.but2 {w w' : World} {lp mp bp mn : Nat} {f : Int → Int → Value} {B : Bk} {S : Nat → Prop} (h : LkAt w lp mp bp mn f B) (hb : But S w w') (h1 : ¬ S lp) (h2 : ¬ S mp) (h3 : ∀ k, B.own bp k → ¬ S k) : LkAt w' lp mp bp mn f B :=
  ⟨hb.row h.obj h1, h.map.move (hb.block _ h.map.lt h2), h.book.but hb h3, h.n1, h.n2⟩
set_option maxHeartbeats 8000000 in
set_option maxRecDepth 100000 in
theorem addZero_c (lp mp bp mn : Nat) (f : Int → Int → Value) (B : Bk) (s g : Int) (gb : Nat) (c n : Int) (w : World) (h : LkAt w lp mp bp mn f B) (hs : (Lit.int .u32 s).wf = true) (hg : (Lit.int .u32 g).wf = true)
    (hf : f s g = groupV gb) (hr : Row w gb 85 [.int .i64 c]) (hz2 : sameH s g 0 0 = false) (hc : 0 ≤ c ∧ c ≤ 2147483647) (hz : c + n = 0) (hkey : ∀ x ∈ B.N, x.rc.key = ⟨s, g, 4⟩) (hap : Apart B.N) (hN : B.N.length ≤ 1000) :
    Calls Try.prog 16 #[.pointer (some ⟨lp, 0, none⟩), .agg #[.int .u32 s, .int .u32 g], .int .i64 n] w fun e w' =>
      ∃ v, e = .returned (.tuple #[didV 0 v, .int .i64 0]) ∧ LkAt w' lp mp bp mn f (B.from B.N.length) ∧ Row w' gb 85 [.int .i64 0] ∧ w'.ownsRow w.heap.size 53 8 v B.N.length (wakes B.N) ∧ But (fun k => B.own bp k ∨ k = gb) w w' := by
  obtain ⟨i0, hi, hiz, his, hib⟩ := info_parts infoWake
  have HK := Lib.hid (Adds.made w s g)
  have HL := Lib.hid (h.below HK.out.below)
  have HG := Lib.hid (hr.below HK.out.below hr.lt)
  have HKK := Lib.hid (⟨hs, hg, rfl⟩ : Key.Ok ⟨s, g, 4⟩)
  have HKEY := Lib.hid hkey
  have HAP := Lib.hid hap
  have e0 := fun w => eql_locks_nil ⟨lp, 0, none⟩ w
  have e1 := fun w => run_eql_handle s g 0 0 w
  rw [hz2] at e1
  have r0 := HK.out.of.cell 0
  have r1 := HK.out.of.cell 1
  have c1 := HL.out.obj.cell 1
  have n0 := HG.out.cell 0
  dsimp only [List.getElem?_cons_zero, List.getElem?_cons_succ] at r0 r1 c1 n0
  have hl := HL.out.look hs hg
  rw [hf] at hl
  unfold groupV at hl
  have HHL := Lib.hid hl
  have w1e : IntKind.i64.wrap (-c) = -c := by simp [IntKind.wrap, IntKind.bits, IntKind.signed, Int.bmod]; omega
  have w2e : IntKind.i64.wrap (2147483647 - c) = 2147483647 - c := by simp [IntKind.wrap, IntKind.bits, IntKind.signed, Int.bmod]; omega
  have w3e : IntKind.i64.wrap (c + n) = 0 := by rw [hz]; rfl
  have d1 : decide (n < -c) = false := decide_eq_false (by omega)
  have d2 : decide (2147483647 - c < n) = false := decide_eq_false (by omega)
  have hgw := hr.lt
  have HOW := Lib.hid (fun k (hk : B.own bp k) => h.book.mem.lt hk)
  have HLP := Lib.hid (And.intro h.obj.lt h.map.lt)
  have HNG := Lib.hid (h.book.mem.not_own hr (by decide))
  obtain ⟨L, hL⟩ : ∃ L, B.N.length = L := ⟨_, rfl⟩
  rw [hL] at hN
  have HLN := Lib.hid hL
  clear h hr hz2 hf hs hg hl hz hkey hap hL
  go_enter Try.func16, Try.ntmps16
  go_upto_region 5 with fail
  change Code.wp _ _ _ _ (wAdd w s g)
  generalize wAdd w s g = w1 at *
  have hl := HHL.out
  have hl0 := hl 0
  rw [World.drewN_zero] at hl0
  go_quiet (fail)
  have HK3 := Lib.hid (HK.out.next (below_drewN (Below.refl _ _) nq))
  have HG3 := Lib.hid (HG.out.drewN nq)
  have HL3 := Lib.hid (HL.out.below (below_drewN (Below.refl _ _) nq))
  clear hl hl0 HHL HK HL HG r0 r1 c1 n0
  generalize w1.drewN nq = w3 at *
  have n0 := HG3.out.cell 0
  have nf := HG3.out.frozen 0
  dsimp only [List.getElem?_cons_zero, List.getElem?_cons_succ] at n0
  go_upto_region 11 with fail
  have hB3 : But (fun k => k = gb) w (w3.setCell ⟨gb, 0, none⟩ (.int .i64 0)) := (But.of_below HK3.out.below (fun k => k = gb)).set ⟨gb, 0, none⟩ _ rfl
  have hL4 : LkAt (w3.setCell ⟨gb, 0, none⟩ (.int .i64 0)) lp mp bp mn f B := HL3.out.but HG3.out (by decide) (by decide) ((But.refl (fun k => k = gb) w3).set ⟨gb, 0, none⟩ _ rfl)
  have hG4 := HG3.out.set 0 (.int .i64 0)
  have hO4 := HK3.out.of.far (p := ⟨gb, 0, none⟩) (by show w.heap.size ≠ gb; omega) (.int .i64 0)
  have hD4 := HK3.out.did.far (p := ⟨gb, 0, none⟩) (by show w.heap.size + 1 ≠ gb; omega) (.int .i64 0)
  generalize w3.setCell ⟨gb, 0, none⟩ (.int .i64 0) = w4 at *
  simp only [List.set_cons_zero] at hG4
  have hA5 : Below w4.heap.size w4 (w4.alloc zDid) := (Below.refl _ _).alloc (Nat.le_refl _) _
  have hE5 := Row.new w4 46 didZ
  change Row (w4.alloc zDid) _ _ _ at hE5
  have hdl := hD4.lt
  have HNU : Hid (Nums w lp mp gb w4.heap.size (w4.alloc zDid).heap.size bp B) := Lib.hid ⟨hgw, hdl, by simp, HOW.out, HNG.out, HLP.out.1, HLP.out.2⟩
  have HWK : Hid (Waking w (w4.alloc zDid) lp mp bp mn gb w4.heap.size (w4.alloc zDid).heap.size f B s g 0 (.slice none 0 0)) :=
    Lib.hid ⟨hL4.below hA5, hG4.alloc zDid, hO4.alloc zDid, hD4.alloc zDid, hE5, World.ownsRow_nil _ _ _ _, (hB3.alloc _).wide fun k hk => .inr hk, Nat.le_refl _⟩
  clear hB3 hL4 hG4 hO4 hD4 hA5 hE5 hdl n0 nf HK3 HG3 HL3 HOW HNG
  go_upto_block 0 with fail
  change Code.wp _ _ _ _ (w4.alloc zDid)
  generalize w4.alloc zDid = w5 at *
  generalize w4.heap.size = db at *
  obtain ⟨b8, hb8⟩ : ∃ b8, w5.heap.size = b8 := ⟨_, rfl⟩
  rw [hb8] at HNU HWK
  clear hb8
  go_wp2_with fail
  go_loopw [11, 12] (fun _ _ wr => ∃ (j : Nat) (v : Value), j ≤ L ∧ Waking w wr lp mp bp mn gb db b8 f B s g j v) (fun _ _ wr => L - lenOf ((wr.cell? ⟨db, 5, none⟩).getD undef))
  case atStart => exact ⟨0, _, by omega, HWK.out⟩
  case round =>
    obtain ⟨j, v, hjL, hW⟩ := hrel
    obtain ⟨A, cp, rfl, _⟩ := own_form hW.own
    have HW := Lib.hid hW
    have n0 := hW.gr.cell 0
    have r0 := hW.of.cell 0
    have r1 := hW.of.cell 1
    have v5 := hW.d.cell 5
    dsimp only [List.getElem?_cons_zero, List.getElem?_cons_succ] at n0 r0 r1 v5
    have CW := Lib.hid (wake_c lp mp bp mn f (B.from j) s g 4 wr hW.lk HKK.out (by show (B.N.drop j).length ≤ _; rw [List.length_drop, HLN.out]; omega))
    have hhd : (inRow ⟨s, g, 4⟩ (B.from j).N).head? = B.N[j]? := by
      show (inRow _ (B.N.drop j)).head? = _
      rw [inRow_all HKEY.out, head_drop]
    unfold WakeTo at CW
    rw [hhd] at CW
    clear hW hhd
    by_cases hjl : j < L
    · obtain ⟨x, hx⟩ : ∃ x, B.N[j]? = some x := ⟨_, List.getElem?_eq_getElem (by rw [HLN.out]; exact hjl)⟩
      rw [hx] at CW
      dsimp only at CW
      rw [Bk.from_left HAP.out hx] at CW
      have HX := Lib.hid hx
      clear hx
      obtain ⟨xa, hxa⟩ : ∃ a, x.rc.hs = a := ⟨_, rfl⟩
      obtain ⟨xg, hxg⟩ : ∃ a, x.rc.hg = a := ⟨_, rfl⟩
      obtain ⟨xm, hxm⟩ : ∃ a, x.rc.arm = a := ⟨_, rfl⟩
      rw [hxa, hxg, hxm] at CW
      have HTK : Hid (wakes (B.N.take (j + 1)) = wakes (B.N.take j) ++ wakeL xa xg xm) := Lib.hid (by rw [take_next HX.out, wakes_append, wakes_one, hxa, hxg, hxm])
      clear hxa hxg hxm
      unfold wakeV wakeL at CW
      go_wp2_with fail
      refine CW.out.mono ?_
      rintro e w6 ⟨rfl, hto⟩
      obtain ⟨hk6, hg6, ho6, hd6, hD6, hw6, hb6⟩ := HW.out.woken HNU.out hto
      have HK6 := Lib.hid hk6
      have HG6 := Lib.hid hg6
      have HO6 := Lib.hid ho6
      have HD6 := Lib.hid hd6
      have HE6 := Lib.hid hD6
      have HW6 := Lib.hid hw6
      have HB6 := Lib.hid hb6
      have hsz6 := hb6.size
      have hs6 : b8 ≤ w6.heap.size := Nat.le_trans HW.out.sz hto.but.size
      clear hto hk6 hg6 ho6 hd6 hD6 hw6 hb6 CW r0 r1 v5
      have v5 : (w6.alloc (.cells #[.int .u32 xa, .int .u32 xg, .int .i64 xm, .int .i64 0, .int .u32 0, .int .u32 0, .bool false, .int .i64 0] 53)).cell? ⟨db, 5, none⟩ = some (.slice A j cp) := (HE6.out.alloc _).cell 5
      have hX7 := Row.new w6 53 [.int .u32 xa, .int .u32 xg, .int .i64 xm, .int .i64 0, .int .u32 0, .int .u32 0, .bool false, .int .i64 0]
      change Row (w6.alloc (.cells #[.int .u32 xa, .int .u32 xg, .int .i64 xm, .int .i64 0, .int .u32 0, .int .u32 0, .bool false, .int .i64 0] 53)) _ _ _ at hX7
      have HX7 := Lib.hid hX7
      have HW7 := Lib.hid (World.ownsRow.alloc HW6.out (.cells #[.int .u32 xa, .int .u32 xg, .int .i64 xm, .int .i64 0, .int .u32 0, .int .u32 0, .bool false, .int .i64 0] 53))
      have HGR : Hid (w6.grownBy (w6.alloc (.cells #[.int .u32 xa, .int .u32 xg, .int .i64 xm, .int .i64 0, .int .u32 0, .int .u32 0, .bool false, .int .i64 0] 53)) (Value.slice A j cp).ownBlock) := Lib.hid (World.grownBy_alloc w6 _ _)
      have hb86 : b8 ≤ (w6.alloc (.cells #[.int .u32 xa, .int .u32 xg, .int .i64 xm, .int .i64 0, .int .u32 0, .int .u32 0, .bool false, .int .i64 0] 53)).heap.size := by simp; omega
      clear hX7
      go_upto_region 15 with fail
      generalize w6.alloc (.cells #[.int .u32 xa, .int .u32 xg, .int .i64 xm, .int .i64 0, .int .u32 0, .int .u32 0, .bool false, .int .i64 0] 53) = w7 at *
      generalize w6.heap.size = xb at *
      obtain ⟨⟨x0, x1, x2, x3, x4, x5, x6, x7⟩, _⟩ := HX7.out.at8
      go_wp2_with (first
        | (at_builtin; refine wpList_append_own_at _ rfl _ _ 44 rfl b8 53 i0 (wakeV 0 0 0) 8 48 Try.underlying44 hi hiz his hib rfl (by decide) _ j (wakes (B.N.take j)) rfl (World.ownsRow.alloc HW7.out _) ⟨w7.heap.size, 0, none⟩ 1 1 [.int .u32 xa, .int .u32 xg, .int .i64 xm, .int .i64 0, .int .u32 0, .int .u32 0, .bool false, .int .i64 0] rfl rfl ?c1 ?c2 ?c3 ?c4 ?c5 ?_)
        | go_in)
      case c1 =>
        intro q u hq
        rw [add_zero]
        exact ((Row.new w7 53 [.int .u32 xa, .int .u32 xg, .int .i64 xm, .int .i64 0, .int .u32 0, .int .u32 0, .bool false, .int .i64 0]).cell q).trans hq
      case c2 => intro u hu; simp at hu; rcases hu with rfl | rfl | rfl | rfl | rfl | rfl | rfl | rfl <;> rfl
      case c3 => unfold maxLen; omega
      case c4 => omega
      case c5 => first | omega | (simp; omega)
      intro v' w8 hown' hgrow _ _
      have hvl : ∃ A c, v' = .slice A (j + 1) c := by obtain ⟨A, c, e, _⟩ := own_form hown'; exact ⟨A, c, e⟩
      obtain ⟨A8, c8, rfl⟩ := hvl
      have hn1 := HNU.out.h1
      have hn2 := HNU.out.h2
      have hn3 := HNU.out.h3
      have hn6 := HNU.out.h6
      have hn7 := HNU.out.h7
      have hgr : w6.grownBy w8 (Value.slice A j cp).ownBlock := (HGR.out.trans (World.grownBy_alloc w7 _ _)).trans hgrow
      have hown : ∀ q, (Value.slice A j cp).ownBlock = some q → b8 ≤ q := fun q e => (HW6.out.lt q e).1
      have hB8 : But (fun k => b8 ≤ k ∨ k = db) w6 w8 := ⟨hgr.os, hgr.tape, hgr.output, hgr.size, fun k hk hn => hgr.block k hk (fun e => hn (.inl (hown k e.symm)))⟩
      have hB9 : But (fun k => b8 ≤ k ∨ k = db) w6 (w8.setCell ⟨db, 5, none⟩ (.slice A8 (j + 1) c8)) := hB8.set ⟨db, 5, none⟩ _ (.inr rfl)
      have hD8 : Row w8 db 46 [.int .i64 0, .int .i64 0, .int .u32 0, .int .u32 0, .bool false, .slice A j cp] := (hgr.block db HE6.out.lt (fun e => by have := hown db e.symm; omega)).trans HE6.out
      have hD9 : Row (w8.setCell ⟨db, 5, none⟩ (.slice A8 (j + 1) c8)) db 46 [.int .i64 0, .int .i64 0, .int .u32 0, .int .u32 0, .bool false, .slice A8 (j + 1) c8] := hD8.set 5 _
      have hO9 : (w8.setCell ⟨db, 5, none⟩ (.slice A8 (j + 1) c8)).ownsRow b8 53 8 (.slice A8 (j + 1) c8) (j + 1) (wakes (B.N.take (j + 1))) := by
        rw [HTK.out]
        exact own_move hown' (fun q hq => Below.heap_setCell w8 ⟨db, 5, none⟩ _ q (by have := (hown'.lt q hq).1; show q ≠ db; omega))
      have hs9 : b8 ≤ (w8.setCell ⟨db, 5, none⟩ (.slice A8 (j + 1) c8)).heap.size := Nat.le_trans hb86 (Nat.le_trans (Nat.le_trans (((But.refl (fun _ => True) w7).alloc _).size) hgrow.size) (((But.refl (fun _ => True) w8).set ⟨db, 5, none⟩ (.slice A8 (j + 1) c8) trivial).size))
      have HW9 : Hid (Waking w (w8.setCell ⟨db, 5, none⟩ (.slice A8 (j + 1) c8)) lp mp bp mn gb db b8 f B s g (j + 1) (.slice A8 (j + 1) c8)) :=
        Lib.hid ⟨HK6.out.but2 hB9 (by show ¬ (b8 ≤ lp ∨ lp = db); omega) (by show ¬ (b8 ≤ mp ∨ mp = db); omega) (fun k hk => by have := HNU.out.h4 k (Bk.from_own hk); show ¬ (b8 ≤ k ∨ k = db); omega),
          hB9.row HG6.out (by show ¬ (b8 ≤ gb ∨ gb = db); omega), hB9.row HO6.out (by show ¬ (b8 ≤ w.heap.size ∨ w.heap.size = db); omega), hB9.row HD6.out (by show ¬ (b8 ≤ w.heap.size + 1 ∨ w.heap.size + 1 = db); omega), hD9, hO9,
          ⟨hB9.os.trans HB6.out.os, hB9.tape.trans HB6.out.tape, hB9.output.trans HB6.out.output, Nat.le_trans HB6.out.size hB9.size, fun k hk hn => (hB9.block k (Nat.lt_of_lt_of_le hk HB6.out.size) (by show ¬ (b8 ≤ k ∨ k = db); omega)).trans (HB6.out.block k hk hn)⟩, hs9⟩
      have z5 := hD8.cell 5
      have g5 := hD8.frozen 5
      have m5 : (w8.setCell ⟨db, 5, none⟩ (.slice A8 (j + 1) c8)).cell? ⟨db, 5, none⟩ = some (.slice A8 (j + 1) c8) := hD9.cell 5
      have p5 : wr.cell? ⟨db, 5, none⟩ = some (.slice A j cp) := HW.out.d.cell 5
      dsimp only [List.getElem?_cons_zero, List.getElem?_cons_succ] at z5
      have HM5 := Lib.hid (And.intro m5 p5)
      clear hown' hgrow hgr hown hB8 hB9 hD8 hD9 hO9 hs9 HK6 HG6 HO6 HD6 HE6 HW6 HB6 HX7 HW7 HGR m5 p5 x0 x1 x2 x3 x4 x5 x6 x7 v5
      go_wp2_with fail
      go_roundw
      case rel => exact ⟨j + 1, _, by omega, HW9.out⟩
      case measure =>
        rw [HM5.out.1, HM5.out.2]
        simp only [Option.getD_some, lenOf]
        omega
    · have hje : j = L := by omega
      have hnn : B.N[j]? = none := List.getElem?_eq_none (by rw [HLN.out]; omega)
      rw [hnn] at CW
      dsimp only at CW
      have HJE := Lib.hid hje
      clear hnn hje
      unfold wakeV wakeL at CW
      go_wp2_with fail
      refine CW.out.mono ?_
      rintro e w6 ⟨rfl, hto⟩
      obtain ⟨hk6, hg6, ho6, hd6, hD6, hw6, hb6⟩ := HW.out.woken HNU.out hto
      have hA7 : Below w6.heap.size w6 (w6.alloc (.cells #[.int .u32 0, .int .u32 0, .int .i64 0, .int .i64 0, .int .u32 0, .int .u32 0, .bool false, .int .i64 0] 53)) := (Below.refl _ _).alloc (Nat.le_refl _) _
      have HK7 := Lib.hid (hk6.below hA7)
      have HG7 := Lib.hid (hg6.below hA7 hg6.lt)
      have HD7 := Lib.hid (hd6.below hA7 hd6.lt)
      have HE7 := Lib.hid (hD6.below hA7 hD6.lt)
      have HW7 := Lib.hid (World.ownsRow.alloc hw6 (.cells #[.int .u32 0, .int .u32 0, .int .i64 0, .int .i64 0, .int .u32 0, .int .u32 0, .bool false, .int .i64 0] 53))
      have HB7 := Lib.hid (hb6.alloc (.cells #[.int .u32 0, .int .u32 0, .int .i64 0, .int .i64 0, .int .u32 0, .int .u32 0, .bool false, .int .i64 0] 53))
      clear hto hk6 hg6 ho6 hd6 hD6 hw6 hb6 CW r0 r1 v5 hA7 n0
      go_upto_region 14 with fail
      generalize w6.alloc (.cells #[.int .u32 0, .int .u32 0, .int .i64 0, .int .i64 0, .int .u32 0, .int .u32 0, .bool false, .int .i64 0] 53) = w7 at *
      obtain ⟨⟨x0, x1, x2, x3, x4, x5⟩, _⟩ := HE7.out.at6
      obtain ⟨⟨z0, z1, z2, z3, z4, z5⟩, f0, f1, f2, f3, f4, f5⟩ := HD7.out.at6
      go_wp2_with fail
      have hfin := HD7.out.store6 (.int .i64 0) (.int .i64 0) (.int .u32 0) (.int .u32 0) (.bool false) (.slice A j cp)
      (try simp only [Exit.inBlock, Exit.then]); refine bodyPost_ret (results_cell2_row rfl _ _ (w.heap.size + 1) 46 #[.int .i64 0, .int .i64 0, .int .u32 0, .int .u32 0, .bool false, .slice A j cp] (0, 0) _ rfl hfin Try.underlying46 rfl (by kernel_rfl)) rfl ?_
      have hn1 := HNU.out.h1
      have hn2 := HNU.out.h2
      have hn3 := HNU.out.h3
      have hn6 := HNU.out.h6
      have hn7 := HNU.out.h7
      have hB : But (fun k => k = w.heap.size + 1) w7 ((((((w7.setCell ⟨w.heap.size + 1, 0, none⟩ (.int .i64 0)).setCell ⟨w.heap.size + 1, 1, none⟩ (.int .i64 0)).setCell ⟨w.heap.size + 1, 2, none⟩ (.int .u32 0)).setCell ⟨w.heap.size + 1, 3, none⟩ (.int .u32 0)).setCell ⟨w.heap.size + 1, 4, none⟩ (.bool false)).setCell ⟨w.heap.size + 1, 5, none⟩ (.slice A j cp)) :=
        ((((((But.refl (fun k => k = w.heap.size + 1) w7).set ⟨_, 0, none⟩ _ rfl).set ⟨_, 1, none⟩ _ rfl).set ⟨_, 2, none⟩ _ rfl).set ⟨_, 3, none⟩ _ rfl).set ⟨_, 4, none⟩ _ rfl).set ⟨_, 5, none⟩ _ rfl
      refine ⟨.slice A j cp, rfl, ?_, ?_, ?_, ?_⟩
      · rw [HLN.out, ← HJE.out]
        exact HK7.out.but2 hB (by show ¬ lp = w.heap.size + 1; omega) (by show ¬ mp = w.heap.size + 1; omega) (fun k hk => by have := HNU.out.h4 k (Bk.from_own hk); show ¬ k = w.heap.size + 1; omega)
      · exact hB.row HG7.out (by show ¬ gb = w.heap.size + 1; omega)
      · have h7 := HW7.out
        rw [List.take_of_length_le (by rw [HLN.out]; exact Nat.le_of_eq HJE.out.symm)] at h7
        have h8 := own_move (w' := ((((((w7.setCell ⟨w.heap.size + 1, 0, none⟩ (.int .i64 0)).setCell ⟨w.heap.size + 1, 1, none⟩ (.int .i64 0)).setCell ⟨w.heap.size + 1, 2, none⟩ (.int .u32 0)).setCell ⟨w.heap.size + 1, 3, none⟩ (.int .u32 0)).setCell ⟨w.heap.size + 1, 4, none⟩ (.bool false)).setCell ⟨w.heap.size + 1, 5, none⟩ (.slice A j cp))) h7 (fun q hq => hB.block q (h7.lt q hq).2 (by have := (h7.lt q hq).1; show ¬ q = w.heap.size + 1; omega))
        rw [HLN.out, ← HJE.out]
        exact h8.mono (by omega)
      · exact ⟨hB.os.trans HB7.out.os, hB.tape.trans HB7.out.tape, hB.output.trans HB7.out.output, Nat.le_trans HB7.out.size hB.size, fun k hk hn => (hB.block k (Nat.lt_of_lt_of_le hk HB7.out.size) (by show ¬ k = w.heap.size + 1; omega)).trans (HB7.out.block k hk hn)⟩
end Go.Proofs.Ytkdiibgjkipdnaa
