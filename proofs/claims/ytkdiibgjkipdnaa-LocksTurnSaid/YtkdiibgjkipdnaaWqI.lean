/-
  A new slot of a book.
-/
import Derived.Test.YtkdiibgjkipdnaaWqH
import Derived.Deep.Cut
import Derived.Deep.CutRange
import Derived.Deep.CutBlock
import Derived.Deep.DeepCutAuto
namespace Go.Proofs.Ytkdiibgjkipdnaa
open Go.RowKit Go.Maps
set_option linter.unusedSimpArgs false

theorem own_set_ne {w : World} {base e size n b o : Nat} {v x : Value} {xs : List Value} (h : w.ownsRow base e size v n xs) (hb : v.ownBlock ≠ some b) : (w.setCell ⟨b, o, none⟩ x).ownsRow base e size v n xs :=
  own_move h fun g hg => Below.heap_setCell w _ x g (fun e => hb (by rw [hg, e]))
theorem RMap.set_ne {w : World} {b n p o : Nat} {x : Value} {f : Key → Option Nat} (h : RMap w b n f) (hb : b ≠ p) : RMap (w.setCell ⟨p, o, none⟩ x) b n f := h.move (Below.heap_setCell w _ x b hb)
theorem infoPtr : (Try.prog.info? 92).map (fun i => (i.zero, i.size, i.bytes)) = some (some (.pointer none), 1, 8) := by kernel_rfl
theorem infoU32 : (Try.prog.info? 33).map (fun i => (i.zero, i.size, i.bytes)) = some (some (.int .u32 0), 1, 4) := by kernel_rfl
/-- what became of a book: which data it has now; what has turned -/
structure BookTo (w : World) (bp : Nat) (B : Bk) (w' : World) (B' : Bk) : Prop where
  at_ : BookAt w' bp B'
  but : But (B.own bp) w w'
  own : ∀ b, B'.own bp b → B.own bp b ∨ w.heap.size ≤ b
/-- the blocks of a book are for different things -/
theorem BookOk.bp_ne {bp : Nat} {B : Bk} (h : BookOk bp B) {b k : Nat} (hb : B.tag b = k) (hk : k ≠ 0) : bp ≠ b := fun e => by
  have := h.t0
  rw [e, hb] at this
  exact hk this
def SlotTo (w : World) (bp : Nat) (B : Bk) (e : Ending) (w' : World) : Prop := ∃ B', e = .returned (.int .i64 (B.gens.length : Nat)) ∧ BookTo w bp B w' B' ∧ B'.N = B.N ∧ B'.gens = B.gens ++ [0] ∧ B'.put = B.put ∧ B'.mp = B.mp ∧ B'.mn = B.mn
theorem slotOf_far {bp : Nat} {B : Bk} (h : BookOk bp B) : slotOf B.N B.gens.length = none := by
  cases hs : slotOf B.N B.gens.length with
  | none => rfl
  | some b =>
    obtain ⟨x, hx, h1, _⟩ := slotOf_some hs
    obtain ⟨i, h2, h3⟩ := h.slot x hx
    have := (List.getElem?_eq_some_iff.1 h3).1
    omega
def Bk.own3 (bp : Nat) (B : Bk) (b : Nat) : Prop := b = bp ∨ B.sv.ownBlock = some b ∨ B.gv.ownBlock = some b
theorem Bk.own3_own {bp : Nat} {B : Bk} {b : Nat} (h : B.own3 bp b) : B.own bp b := by
  rcases h with h | h | h
  · exact .inl h
  · exact .inr (.inr (.inl h))
  · exact .inr (.inr (.inr (.inl h)))
theorem But.wide {S T : Nat → Prop} {w w' : World} (h : But S w w') (hs : ∀ b, S b → T b) : But T w w' := ⟨h.os, h.tape, h.output, h.size, fun k hk hn => h.block k hk (fun e => hn (hs k e))⟩
/-- a book with one slot more -/
def Bk.more (B : Bk) (sv gv : Value) : Bk := { B with sv := sv, gv := gv, gens := B.gens ++ [0], tag := fun b => if sv.ownBlock = some b then 2 else if gv.ownBlock = some b then 3 else B.tag b }
theorem BookTo.more {w w5 : World} {bp : Nat} {B : Bk} (H : BookAt w bp B) (hB : But (B.own3 bp) w w5) {sv gv : Value}
    (hrow : Row w5 bp 74 [.map (some B.mp), sv, gv, .int .i64 B.put, .int .i64 (B.N.length : Nat)])
    (hs : w5.ownsRow 0 92 1 sv (B.gens.length + 1) (slotCells B.N B.gens.length ++ [.pointer none]))
    (hg : w5.ownsRow 0 33 1 gv (B.gens.length + 1) (B.gens.map (Value.int .u32) ++ [.int .u32 0]))
    (h1 : sv.ownBlock = B.sv.ownBlock ∨ ∃ g, sv.ownBlock = some g ∧ w.heap.size ≤ g)
    (h2 : gv.ownBlock = B.gv.ownBlock ∨ ∃ g, gv.ownBlock = some g ∧ w.heap.size ≤ g)
    (hne : ∀ g, sv.ownBlock = some g → gv.ownBlock ≠ some g) (hn : B.gens.length ≤ 99999) : BookTo w bp B w5 (B.more sv gv) := by
  have hsx : ∀ b, b < w.heap.size → B.tag b ≠ 2 → sv.ownBlock ≠ some b := fun b hb ht e => by
    rcases h1 with e1 | ⟨g, e1, e2⟩
    · exact ht (H.ok.t2 b (e1 ▸ e))
    · rw [e1] at e; have := Option.some.inj e; omega
  have hgx : ∀ b, b < w.heap.size → B.tag b ≠ 3 → gv.ownBlock ≠ some b := fun b hb ht e => by
    rcases h2 with e1 | ⟨g, e1, e2⟩
    · exact ht (H.ok.t3 b (e1 ▸ e))
    · rw [e1] at e; have := Option.some.inj e; omega
  have htag : ∀ b, b < w.heap.size → B.tag b ≠ 2 → B.tag b ≠ 3 → (B.more sv gv).tag b = B.tag b := fun b hb t2 t3 => by
    simp only [Bk.more]
    rw [if_neg (hsx b hb t2), if_neg (hgx b hb t3)]
  have hkeep : ∀ b, b < w.heap.size → B.tag b ≠ 0 → B.tag b ≠ 2 → B.tag b ≠ 3 → w5.heap[b]? = w.heap[b]? := fun b hb t0 t2 t3 =>
    hB.block b hb (by
      rintro (rfl | e | e)
      · exact t0 H.ok.t0
      · exact t2 (H.ok.t2 b e)
      · exact t3 (H.ok.t3 b e))
  have hbp := H.mem.book.lt
  refine ⟨⟨⟨hrow, ?_, ?_, ?_, ?_, ?_⟩, ?_⟩, hB.wide fun b => Bk.own3_own, ?_⟩
  · exact H.mem.map.move (hkeep _ H.mem.map.lt (by rw [H.ok.t1]; decide) (by rw [H.ok.t1]; decide) (by rw [H.ok.t1]; decide))
  · have e : (B.more sv gv).gens.length = B.gens.length + 1 := by simp [Bk.more]
    rw [e]
    have e2 : slotCells (B.more sv gv).N (B.gens.length + 1) = slotCells B.N B.gens.length ++ [.pointer none] := by
      simp only [slotCells, List.range_succ, List.map_append, List.map_cons, List.map_nil, Bk.more]
      rw [slotOf_far H.ok]; rfl
    rw [e2]; exact hs
  · have e : (B.more sv gv).gens.length = B.gens.length + 1 := by simp [Bk.more]
    rw [e]
    have e2 : (B.more sv gv).gens.map (Value.int .u32) = B.gens.map (Value.int .u32) ++ [.int .u32 0] := by simp [Bk.more]
    rw [e2]; exact hg
  · intro x hx
    have t := H.ok.t4 x hx
    exact (hkeep _ (H.mem.node x hx).lt (by rw [t]; decide) (by rw [t]; decide) (by rw [t]; decide)).trans (H.mem.node x hx)
  · intro x hx
    have t := H.ok.t5 x hx
    exact (hkeep _ (H.mem.row x hx).lt (by rw [t]; decide) (by rw [t]; decide) (by rw [t]; decide)).trans (H.mem.row x hx)
  · refine ⟨H.ok.same, H.ok.blks, H.ok.ms, ?_, H.ok.ser, H.ok.upto, H.ok.ok, ?_, ?_, ?_, ?_, ?_, ?_, ?_, ?_, H.ok.fewp, H.ok.fewm⟩
    · intro x hx
      obtain ⟨i, e1, e2⟩ := H.ok.slot x hx
      refine ⟨i, e1, ?_⟩
      change (B.gens ++ [0])[i]? = _
      rw [List.getElem?_append_left (List.getElem?_eq_some_iff.1 e2).1]; exact e2
    · intro g hg
      rcases List.mem_append.1 hg with e | e
      · exact H.ok.gens g e
      · simp at e; subst e; exact ⟨Int.le_refl _, H.ok.fewp.1⟩
    · have t := H.ok.t0
      rw [htag bp hbp (by rw [t]; decide) (by rw [t]; decide)]; exact t
    · have t := H.ok.t1
      have := htag B.mp H.mem.map.lt (by rw [t]; decide) (by rw [t]; decide)
      exact this.trans t
    · intro g e
      have e : sv.ownBlock = some g := e
      simp only [Bk.more]
      rw [if_pos e]
    · intro g e
      have e : gv.ownBlock = some g := e
      simp only [Bk.more]
      rw [if_neg (fun e2 => hne g e2 e), if_pos e]
    · intro x hx
      have t := H.ok.t4 x hx
      exact (htag _ (H.mem.node x hx).lt (by rw [t]; decide) (by rw [t]; decide)).trans t
    · intro x hx
      have t := H.ok.t5 x hx
      exact (htag _ (H.mem.row x hx).lt (by rw [t]; decide) (by rw [t]; decide)).trans t
    · have e : (B.more sv gv).gens.length = B.gens.length + 1 := by simp [Bk.more]
      rw [e]; omega
  · intro b hb
    rcases hb with hb | hb | hb | hb | hb
    · exact .inl (.inl hb)
    · exact .inl (.inr (.inl hb))
    · have hb : sv.ownBlock = some b := hb
      rcases h1 with e | ⟨g, e, e2⟩
      · exact .inl (.inr (.inr (.inl (e ▸ hb))))
      · rw [e] at hb; have := Option.some.inj hb; exact .inr (by omega)
    · have hb : gv.ownBlock = some b := hb
      rcases h2 with e | ⟨g, e, e2⟩
      · exact .inl (.inr (.inr (.inr (.inl (e ▸ hb)))))
      · rw [e] at hb; have := Option.some.inj hb; exact .inr (by omega)
    · exact .inl (.inr (.inr (.inr (.inr hb))))
set_option maxHeartbeats 4000000 in
set_option maxRecDepth 100000 in
theorem slotNew_c (bp : Nat) (B : Bk) (w : World) (h : BookAt w bp B) (hf : ∀ j, j < B.gens.length → ∃ b, slotOf B.N j = some b) (hn : B.gens.length ≤ 99999) :
    Calls Try.prog 28 #[.pointer (some ⟨bp, 0, none⟩)] w (SlotTo w bp B) := by
  obtain ⟨i0, hi, hz0, hz1, hz2⟩ := info_parts infoPtr
  obtain ⟨k0, hki, hkz0, hkz1, hkz2⟩ := info_parts infoU32
  obtain ⟨_, c1, c2, _, _⟩ := h.fields
  have f1 := h.frozen 1
  have f2 := h.frozen 2
  obtain ⟨A, c, hsv, hc⟩ := h.ptrs
  obtain ⟨Ag, cg, hgv, _⟩ := own_form h.mem.gen
  have hfew := h.ok.few
  have CI := Lib.hid (index_none A B.gens.length c (slotsL B.N B.gens.length) w (by simp [slotsL]) hc hfew (fun j hj => by
    obtain ⟨b, hb⟩ := hf j hj
    exact ⟨b, by rw [slotsL_get (by omega), hb]⟩))
  have H := Lib.hid h
  have HS : Hid (w.ownsRow 0 92 1 (.slice A B.gens.length c) B.gens.length (slotCells B.N B.gens.length)) := Lib.hid (by rw [← hsv]; exact h.mem.slots)
  have HG : Hid (w.ownsRow 0 33 1 (.slice Ag B.gens.length cg) B.gens.length (B.gens.map (Value.int .u32))) := Lib.hid (by rw [← hgv]; exact h.mem.gen)
  have HSV := Lib.hid hsv
  have HGV := Lib.hid hgv
  rw [hsv] at c1
  rw [hgv] at c2
  have hbl : bp < w.heap.size := h.mem.book.lt
  have hsb : (Value.slice A B.gens.length c).ownBlock ≠ some bp := fun e => (h.ok.bp_ne (h.ok.t2 bp (by rw [hsv]; exact e)) (by decide)) rfl
  have hgb : (Value.slice Ag B.gens.length cg).ownBlock ≠ some bp := fun e => (h.ok.bp_ne (h.ok.t3 bp (by rw [hgv]; exact e)) (by decide)) rfl
  have hsg : ∀ g, (Value.slice A B.gens.length c).ownBlock = some g → (Value.slice Ag B.gens.length cg).ownBlock ≠ some g := fun g e1 e2 => by
    have h1 := h.ok.t2 g (by rw [hsv]; exact e1)
    have h2 := h.ok.t3 g (by rw [hgv]; exact e2)
    omega
  obtain ⟨n, hnn⟩ : ∃ n, B.gens.length = n := ⟨_, rfl⟩
  have HN := Lib.hid hnn
  rw [hnn] at c1 c2 CI HS HG hn hfew hsb hgb hsg HSV HGV
  have HSB := Lib.hid hsb
  have HGB := Lib.hid hgb
  have HSG := Lib.hid hsg
  clear h hsv hgv hc hf hnn hsb hgb hsg
  go_enter Try.func28, Try.ntmps28
  go_wp2_with fail
  refine CI.out.mono ?_
  rintro e w1 ⟨rfl, rfl⟩
  go_upto_region 4 with (first
    | (at_builtin; refine wpList_append_own_at _ rfl _ _ 71 rfl 0 92 i0 (.pointer none) 1 8 Try.underlying71 hi hz0 hz1 hz2 rfl (by decide) _ n (slotCells B.N n) rfl (World.ownsRow.alloc HS.out _) ⟨w.heap.size, 0, none⟩ 1 1 [.pointer none] rfl rfl ?c1 ?c2 ?c3 ?c4 ?c5 ?_)
    | go_in)
  case c1 =>
    intro q u hq
    rw [add_zero]
    exact ((Row.new w 92 [.pointer none]).cell q).trans hq
  case c2 => intro u hu; simp at hu; subst hu; rfl
  case c3 => unfold maxLen; omega
  case c4 => omega
  case c5 => omega
  intro sv' w2 hown' hgrow _ hat
  have hvl : ∃ A c, sv' = .slice A (n + 1) c := by obtain ⟨A, c, e, _⟩ := own_form hown'; exact ⟨A, c, e⟩
  obtain ⟨A2, c2', rfl⟩ := hvl
  have hgr : w.grownBy w2 (Value.slice A n c).ownBlock := (World.grownBy_alloc w _ _).trans hgrow
  have hat' : (Value.slice A2 (n + 1) c2').ownBlock = (Value.slice A n c).ownBlock ∨ ∃ g, (Value.slice A2 (n + 1) c2').ownBlock = some g ∧ w.heap.size ≤ g := hat.imp id (fun e => ⟨_, e, by simp⟩)
  have hR2 : Row w2 bp 74 [.map (some B.mp), .slice A n c, .slice Ag n cg, .int .i64 B.put, .int .i64 (B.N.length : Nat)] := (hgr.block bp hbl (fun e => HSB.out e.symm)).trans (by have := H.out.mem.book; rw [HSV.out, HGV.out] at this; exact this)
  have hsb2 : (Value.slice A2 (n + 1) c2').ownBlock ≠ some bp := fun e => by
    rcases hat' with e2 | ⟨g, e2, hg⟩
    · exact HSB.out (e2 ▸ e)
    · rw [e2] at e; have := Option.some.inj e; omega
  have hG2 : w2.ownsRow 0 33 1 (.slice Ag n cg) n (B.gens.map (Value.int .u32)) := own_move HG.out fun g hg => hgr.block g (HG.out.lt g hg).2 (fun e => HSG.out g e.symm hg)
  have c1 := hR2.cell 1
  have c2 := hR2.cell 2
  have f1 := hR2.frozen 1
  dsimp only [List.getElem?_cons_zero, List.getElem?_cons_succ] at c1 c2
  have hR3 := hR2.set 1 (.slice A2 (n + 1) c2')
  have hB2 : But (B.own3 bp) w w2 := ⟨hgr.os, hgr.tape, hgr.output, hgr.size, fun k hk hn => hgr.block k hk (fun e => hn (.inr (.inl (by rw [HSV.out]; exact e.symm))))⟩
  have hB3 : But (B.own3 bp) w (w2.setCell ⟨bp, 1, none⟩ (.slice A2 (n + 1) c2')) := hB2.set ⟨bp, 1, none⟩ (.slice A2 (n + 1) c2') (.inl rfl)
  have hS3 := own_set_ne (o := 1) (x := (.slice A2 (n + 1) c2')) hown' hsb2
  have hG3 := own_set_ne (o := 1) (x := (.slice A2 (n + 1) c2')) hG2 HGB.out
  have HAT := Lib.hid hat'
  have HSB2 := Lib.hid hsb2
  clear hown' hgrow hat hat' hgr hR2 hG2 hB2 hsb2
  go_upto_region 4 with fail
  have hszz : w.heap.size ≤ (w2.setCell ⟨bp, 1, none⟩ (.slice A2 (n + 1) c2')).heap.size := hB3.size
  generalize w2.setCell ⟨bp, 1, none⟩ (.slice A2 (n + 1) c2') = w3 at *
  have HR3 := Lib.hid hR3
  have HB3 := Lib.hid hB3
  have HS3 := Lib.hid hS3
  have HG3 := Lib.hid hG3
  have c2 := hR3.cell 2
  have c1 := hR3.cell 1
  simp only [List.set_cons_zero, List.set_cons_succ, List.getElem?_cons_zero, List.getElem?_cons_succ] at c1 c2
  have hbl3 : bp < w3.heap.size := hR3.lt
  clear hR3 hB3 hS3 hG3
  go_upto_region 5 with (first
    | (at_builtin; refine wpList_append_own_at _ rfl _ _ 72 rfl 0 33 k0 (.int .u32 0) 1 4 Try.underlying72 hki hkz0 hkz1 hkz2 rfl (by decide) _ n (B.gens.map (Value.int .u32)) rfl (World.ownsRow.alloc HG3.out _) ⟨w3.heap.size, 0, none⟩ 1 1 [.int .u32 0] rfl rfl ?d1 ?d2 ?d3 ?d4 ?d5 ?_)
    | go_in)
  case d1 =>
    intro q u hq
    rw [add_zero]
    exact ((Row.new w3 33 [.int .u32 0]).cell q).trans hq
  case d2 => intro u hu; simp at hu; subst hu; rfl
  case d3 => unfold maxLen; omega
  case d4 => omega
  case d5 => omega
  intro gv' w4 hown' hgrow _ hat
  have hvl : ∃ A c, gv' = .slice A (n + 1) c := by obtain ⟨A, c, e, _⟩ := own_form hown'; exact ⟨A, c, e⟩
  obtain ⟨G2, d2', rfl⟩ := hvl
  have hgr : w3.grownBy w4 (Value.slice Ag n cg).ownBlock := (World.grownBy_alloc w3 _ _).trans hgrow
  have hat' : (Value.slice G2 (n + 1) d2').ownBlock = (Value.slice Ag n cg).ownBlock ∨ ∃ g, (Value.slice G2 (n + 1) d2').ownBlock = some g ∧ w3.heap.size ≤ g := hat.imp id (fun e => ⟨_, e, by simp⟩)
  have hR4 : Row w4 bp 74 [.map (some B.mp), (.slice A2 (n + 1) c2'), .slice Ag n cg, .int .i64 B.put, .int .i64 (B.N.length : Nat)] := (hgr.block bp hbl3 (fun e => HGB.out e.symm)).trans HR3.out
  have hgb4 : (Value.slice G2 (n + 1) d2').ownBlock ≠ some bp := fun e => by
    rcases hat' with e2 | ⟨g, e2, hg⟩
    · exact HGB.out (e2 ▸ e)
    · rw [e2] at e; have := Option.some.inj e; omega
  have hlt3 : ∀ g, (Value.slice A2 (n + 1) c2').ownBlock = some g → g < w3.heap.size := fun g e => (HS3.out.lt g e).2
  have hltG : ∀ g, (Value.slice Ag n cg).ownBlock = some g → g < w.heap.size := fun g e => (HG.out.lt g e).2
  have hltS : ∀ g, (Value.slice A n c).ownBlock = some g → g < w.heap.size := fun g e => (HS.out.lt g e).2
  have hne : ∀ g, (Value.slice A2 (n + 1) c2').ownBlock = some g → (Value.slice Ag n cg).ownBlock ≠ some g := fun g e1 e2 => by
    rcases HAT.out with e | ⟨g2, e, hg⟩
    · exact HSG.out g (e ▸ e1) e2
    · have h0 := hltG g e2
      rw [e] at e1; have := Option.some.inj e1; omega
  have hS4 : w4.ownsRow 0 92 1 (.slice A2 (n + 1) c2') (n + 1) (slotCells B.N n ++ [.pointer none]) := own_move HS3.out fun g hg => hgr.block g (hlt3 g hg) (fun e => hne g hg e.symm)
  have hB4 : But (B.own3 bp) w w4 := ⟨hgr.os.trans HB3.out.os, hgr.tape.trans HB3.out.tape, hgr.output.trans HB3.out.output, Nat.le_trans HB3.out.size hgr.size, fun k hk hn => (hgr.block k (Nat.lt_of_lt_of_le hk hszz) (fun e => hn (.inr (.inr (by rw [HGV.out]; exact e.symm))))).trans (HB3.out.block k hk hn)⟩
  have hB5 : But (B.own3 bp) w (w4.setCell ⟨bp, 2, none⟩ (Value.slice G2 (n + 1) d2')) := hB4.set ⟨bp, 2, none⟩ (Value.slice G2 (n + 1) d2') (.inl rfl)
  have hS5 := own_set_ne (o := 2) (x := (Value.slice G2 (n + 1) d2')) hS4 HSB2.out
  have hG5 := own_set_ne (o := 2) (x := (Value.slice G2 (n + 1) d2')) hown' hgb4
  have hR5 := hR4.set 2 (Value.slice G2 (n + 1) d2')
  have hne2 : ∀ g, (Value.slice A2 (n + 1) c2').ownBlock = some g → (Value.slice G2 (n + 1) d2').ownBlock ≠ some g := fun g e1 e2 => by
    rcases hat' with e | ⟨g2, e, hg⟩
    · exact hne g e1 (e ▸ e2)
    · have h0 := hlt3 g e1
      rw [e] at e2; have := Option.some.inj e2; omega
  have hat5 : (Value.slice G2 (n + 1) d2').ownBlock = (Value.slice Ag n cg).ownBlock ∨ ∃ g, (Value.slice G2 (n + 1) d2').ownBlock = some g ∧ w.heap.size ≤ g := hat'.imp id (fun ⟨g, e, hg⟩ => ⟨g, e, Nat.le_trans hszz hg⟩)
  have hat2 := HAT.out
  have HN' := HN.out
  rw [← HGV.out] at hat5
  rw [← HSV.out] at hat2
  subst HN'
  have HBT := Lib.hid (BookTo.more H.out hB5 hR5 hS5 hG5 hat2 hat5 hne2 hn)
  have f2' := hR4.frozen 2
  have c2' := hR4.cell 2
  have c1' := hR5.cell 1
  simp only [List.set_cons_zero, List.set_cons_succ, List.getElem?_cons_zero, List.getElem?_cons_succ] at c2' c1'
  clear hS4 hB4 hB5 hS5 hG5 hR5 hne2 hat5 hat2 hne hltG hltS hlt3 hown' hgrow hat hgr hat' hR4 hgb4 c1 c2
  go_upto_region 5 with fail
  generalize w4.setCell ⟨bp, 2, none⟩ (Value.slice G2 (B.gens.length + 1) d2') = w5 at *
  have nn : ((B.gens.length + 1 : Nat) : Int) - 1 = (B.gens.length : Nat) := by omega
  go_wp2_with fail
  go_ret
  exact ⟨_, rfl, HBT.out, rfl, rfl, rfl, rfl, rfl⟩
end Go.Proofs.Ytkdiibgjkipdnaa
