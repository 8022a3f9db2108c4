/-
  A book and the two lists of a script, in memory.
-/
import Derived.Test.YtgndpodeedjohaaWqZ
import Derived.Test.YtgndpodeedjohaaAwake
namespace Go.Proofs.Ytgndpodeedjohaa
open Go.RowKit Go.Maps
set_option linter.unusedSimpArgs false
set_option linter.unusedVariables false

/-- b0: all of it lies at b0 or above -/
structure Scr (b0 : Nat) (w : World) (bp : Nat) (B : Bk) (tv ov : Value) (T : List Rc) (O : List Int) : Prop where
  book : BookAt w bp B
  told : w.ownsRow b0 57 11 tv T.length (recs T)
  over : w.ownsRow b0 3 1 ov O.length (O.map (Value.int .i64))
  up : ∀ b, B.own bp b → b0 ≤ b
  d1 : ∀ g, tv.ownBlock = some g → ¬ B.own bp g
  d2 : ∀ g, ov.ownBlock = some g → ¬ B.own bp g
  d3 : ∀ g, tv.ownBlock = some g → ov.ownBlock ≠ some g
theorem Scr.below {b0 bp : Nat} {w w' : World} {B : Bk} {tv ov : Value} {T : List Rc} {O : List Int} (h : Scr b0 w bp B tv ov T O) (hb : Below w.heap.size w w') : Scr b0 w' bp B tv ov T O :=
  ⟨h.book.below hb, own_move h.told fun g hg => hb.block g (h.told.lt g hg).2, own_move h.over fun g hg => hb.block g (h.over.lt g hg).2, h.up, h.d1, h.d2, h.d3⟩
theorem Scr.to {b0 bp : Nat} {w w' : World} {B B' : Bk} {tv ov : Value} {T : List Rc} {O : List Int} (h : Scr b0 w bp B tv ov T O) (hb0 : b0 ≤ w.heap.size) (k : BookTo w bp B w' B') : Scr b0 w' bp B' tv ov T O := by
  have hd : ∀ g, g < w.heap.size → ¬ B.own bp g → ¬ B'.own bp g := fun g hg hn e => by
    rcases k.own g e with e | e
    · exact hn e
    · omega
  refine ⟨k.at_, own_move h.told fun g hg => k.but.block g (h.told.lt g hg).2 (h.d1 g hg), own_move h.over fun g hg => k.but.block g (h.over.lt g hg).2 (h.d2 g hg), ?_, ?_, ?_, h.d3⟩
  · intro b hb
    rcases k.own b hb with e | e
    · exact h.up b e
    · omega
  · exact fun g hg => hd g (h.told.lt g hg).2 (h.d1 g hg)
  · exact fun g hg => hd g (h.over.lt g hg).2 (h.d2 g hg)
/-- below b0 nothing has turned -/
theorem Scr.to_below {b0 bp : Nat} {w0 w w' : World} {B B' : Bk} {tv ov : Value} {T : List Rc} {O : List Int} (h : Scr b0 w bp B tv ov T O) (hw : Below b0 w0 w) (hb0 : b0 ≤ w.heap.size) (k : BookTo w bp B w' B') : Below b0 w0 w' :=
  But.below hw k.but hb0 h.up
/-- one of the told is over -/
theorem Scr.set {b0 bp : Nat} {w : World} {B : Bk} {tv : Value} {T : List Rc} {O : List Int} {og c k : Nat} (h : Scr b0 w bp B tv (.slice (some ⟨og, 0, none⟩) O.length c) T O) (v : Int) : Scr b0 (w.setCell ⟨og, k, none⟩ (.int .i64 v)) bp B tv (.slice (some ⟨og, 0, none⟩) (O.set k v).length c) T (O.set k v) := by
  have e : ∀ b, b ≠ og → (w.setCell ⟨og, k, none⟩ (.int .i64 v)).heap[b]? = w.heap[b]? := fun b hb => Below.heap_setCell w _ _ b hb
  have hl : (O.set k v).length = O.length := by simp
  refine ⟨h.book.move fun b hb => e b fun q => h.d2 og rfl (q ▸ hb), own_move h.told fun g hg => e g fun q => h.d3 g hg (by rw [q]; rfl), ?_, h.up, h.d1, ?_, ?_⟩
  · rw [hl]
    have := (h.over.stored k (.int .i64 v)).1
    rw [map_set']
    exact this
  · rw [hl]; exact h.d2
  · rw [hl]; exact h.d3
theorem Scr.set_below {b0 bp : Nat} {w0 w : World} {B : Bk} {tv : Value} {T : List Rc} {O : List Int} {og c k : Nat} (h : Scr b0 w bp B tv (.slice (some ⟨og, 0, none⟩) O.length c) T O) (hw : Below b0 w0 w) (v : Int) : Below b0 w0 (w.setCell ⟨og, k, none⟩ (.int .i64 v)) :=
  hw.setCell (p := ⟨og, k, none⟩) (h.over.lt og rfl).1 _
/-- one is told more -/
theorem Scr.tell {b0 bp : Nat} {w w' : World} {B : Bk} {tv tv' ov : Value} {T : List Rc} {O : List Int} (h : Scr b0 w bp B tv ov T O) (hb0 : b0 ≤ w.heap.size) (r : Rc) (hg : w.grownBy w' tv.ownBlock) (ho : w'.ownsRow b0 57 11 tv' (T.length + 1) (recs T ++ r.cells))
    (hat : tv'.ownBlock = tv.ownBlock ∨ ∃ g, tv'.ownBlock = some g ∧ w.heap.size ≤ g) : Scr b0 w' bp B tv' ov (T ++ [r]) O := by
  refine ⟨h.book.move fun b hb => hg.block b (h.book.mem.lt hb) (fun e => h.d1 b e.symm hb), ?_, own_move h.over fun g hgo => hg.block g (h.over.lt g hgo).2 (fun e => h.d3 g e.symm hgo), h.up, ?_, h.d2, ?_⟩
  · rw [List.length_append, recs_append, recs_one]; exact ho
  · intro g e hb
    rcases hat with q | ⟨g', q, hq⟩
    · exact h.d1 g (q ▸ e) hb
    · rw [q] at e; have := Option.some.inj e; have := h.book.mem.lt hb; omega
  · intro g e e2
    rcases hat with q | ⟨g', q, hq⟩
    · exact h.d3 g (q ▸ e) e2
    · rw [q] at e; have := Option.some.inj e; have := (h.over.lt g e2).2; omega
theorem Scr.overs {b0 bp : Nat} {w w' : World} {B : Bk} {tv ov ov' : Value} {T : List Rc} {O : List Int} (h : Scr b0 w bp B tv ov T O) (hb0 : b0 ≤ w.heap.size) (o : Int) (hg : w.grownBy w' ov.ownBlock) (ho : w'.ownsRow b0 3 1 ov' (O.length + 1) (O.map (Value.int .i64) ++ [.int .i64 o]))
    (hat : ov'.ownBlock = ov.ownBlock ∨ ∃ g, ov'.ownBlock = some g ∧ w.heap.size ≤ g) : Scr b0 w' bp B tv ov' T (O ++ [o]) := by
  refine ⟨h.book.move fun b hb => hg.block b (h.book.mem.lt hb) (fun e => h.d2 b e.symm hb), own_move h.told fun g hgo => hg.block g (h.told.lt g hgo).2 (fun e => h.d3 g hgo e.symm), ?_, h.up, h.d1, ?_, ?_⟩
  · rw [List.length_append, List.map_append]; exact ho
  · intro g e hb
    rcases hat with q | ⟨g', q, hq⟩
    · exact h.d2 g (q ▸ e) hb
    · rw [q] at e; have := Option.some.inj e; have := h.book.mem.lt hb; omega
  · intro g e e2
    rcases hat with q | ⟨g', q, hq⟩
    · exact h.d3 g e (q ▸ e2)
    · rw [q] at e2; have := Option.some.inj e2; have := (h.told.lt g e).2; omega
/-- Put, in one word -/
def putErr (N : List Nd) (k : Key) (hs hg arm : Int) : Option Int := if sameH hs hg 0 0 = true then some 111 else if k.d < 1 ∨ 4 < k.d then some 112 else if N.any (hits hs hg arm) = true then some 113 else none
def PutAns (w : World) (bp : Nat) (B : Bk) (k : Key) (hs hg arm vn vs vg : Int) (e : Ending) (w' : World) : Prop := match putErr B.N k hs hg arm with
  | some er => e = .returned (putV 0 0 er) ∧ BookTo w bp B w' B
  | none => PutTo w bp B k hs hg arm vn vs vg e w'
theorem put_c (bp : Nat) (B : Bk) (k : Key) (hs hg arm vn vs vg : Int) (w : World) (h : BookAt w bp B) (hrc : PutOk k hs hg arm vn vs vg) (hgl : B.gens.length ≤ 99999) (hpl : B.put ≤ 99999) (hml : B.mn ≤ 99999) (hnl : B.N.length ≤ 99999) :
    Calls Try.prog 16 #[.pointer (some ⟨bp, 0, none⟩), .agg #[.int .u32 k.s, .int .u32 k.g, .int .i64 k.d], .agg #[.int .u32 hs, .int .u32 hg], .int .i64 arm, .agg #[.int .i64 vn, .int .u32 vs, .int .u32 vg]] w (PutAns w bp B k hs hg arm vn vs vg) := by
  have hbel : ∀ w', Below w.heap.size w w' → BookTo w bp B w' B := fun w' hb => (BookTo.refl h).then hb
  cases h1 : sameH hs hg 0 0 with
  | true =>
    have he : putErr B.N k hs hg arm = some 111 := by unfold putErr; rw [if_pos h1]
    refine (putZero_c bp k hs hg arm vn vs vg w h1).mono ?_
    rintro e w' ⟨rfl, hb⟩
    unfold PutAns; rw [he]
    exact ⟨rfl, hbel w' hb⟩
  | false =>
    have h1' : ¬ sameH hs hg 0 0 = true := by rw [h1]; decide
    by_cases h2 : k.d < 1 ∨ 4 < k.d
    · have he : putErr B.N k hs hg arm = some 112 := by unfold putErr; rw [if_neg h1', if_pos h2]
      refine (putSide_c bp k hs hg arm vn vs vg w h1 h2).mono ?_
      rintro e w' ⟨rfl, hb⟩
      unfold PutAns; rw [he]
      exact ⟨rfl, hbel w' hb⟩
    · by_cases h3 : B.N.any (hits hs hg arm) = true
      · have he : putErr B.N k hs hg arm = some 113 := by unfold putErr; rw [if_neg h1', if_neg h2, if_pos h3]
        obtain ⟨x, hx, hh⟩ := List.any_eq_true.1 h3
        refine (putTwice_c bp B k hs hg arm vn vs vg w h h1 h2 x hx hh).mono ?_
        rintro e w' ⟨rfl, hb⟩
        unfold PutAns; rw [he]
        exact ⟨rfl, hbel w' hb⟩
      · have he : putErr B.N k hs hg arm = none := by unfold putErr; rw [if_neg h1', if_neg h2, if_neg h3]
        have hno : ∀ x ∈ B.N, hits hs hg arm x = false := fun x hx => by
          cases q : hits hs hg arm x with
          | false => rfl
          | true => exact absurd (List.any_eq_true.2 ⟨x, hx, q⟩) h3
        have hgo : ∀ e w', PutTo w bp B k hs hg arm vn vs vg e w' → PutAns w bp B k hs hg arm vn vs vg e w' := fun e w' hp => by
          unfold PutAns; rw [he]; exact hp
        cases hl : (inRow k B.N).getLast? with
        | none => exact (putNew_c bp B k hs hg arm vn vs vg w h h1 h2 hno hrc hgl hpl hml hnl (List.getLast?_eq_none_iff.1 hl)).mono hgo
        | some y => exact (putOld_c bp B k hs hg arm vn vs vg w h h1 h2 hno hrc hgl hpl hml hnl y hl).mono hgo
end Go.Proofs.Ytgndpodeedjohaa
