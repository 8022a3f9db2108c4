/-
  A book of waits in memory.
-/
import Derived.Test.YtkdiibgjkipdnaaWqB
import Derived.Test.YtkdiibgjkipdnaaRgP
namespace Go.Proofs.Ytkdiibgjkipdnaa
open Go.RowKit Go.Maps
set_option linter.unusedSimpArgs false

structure Rc.Ok (r : Rc) : Prop where
  ms : (Lit.int .u32 r.ms).wf = true
  mg : (Lit.int .u32 r.mg).wf = true
  hs : (Lit.int .u32 r.hs).wf = true
  hg : (Lit.int .u32 r.hg).wf = true
  key : r.key.Ok
  arm : (Lit.int .i64 r.arm).wf = true
  vn : (Lit.int .i64 r.vn).wf = true
  vs : (Lit.int .u32 r.vs).wf = true
  vg : (Lit.int .u32 r.vg).wf = true
/-- a book's data: the map's block and how many were ever laid there at most; slots; generations; the waits there are, as they were put; how many were put ever; what each block is for -/
structure Bk where
  mp : Nat
  mn : Nat
  sv : Value
  gv : Value
  N : List Nd
  gens : List Int
  put : Int
  tag : Nat → Nat
def inRow (k : Key) (N : List Nd) : List Nd := N.filter fun x => decide (x.rc.key = k)
def rowOf (N : List Nd) (k : Key) : Option Nat := (inRow k N).head?.map (·.rb)
/-- who stands ahead of a block, in a list; who stands behind it -/
def prvA (a : Option Nat) : List Nd → Nat → Option Nat
  | [], _ => none
  | y :: l, b => if y.blk = b then a else prvA (some y.blk) l b
def prv (l : List Nd) (b : Nat) : Option Nat := prvA none l b
def nxt : List Nd → Nat → Option Nat
  | [], _ => none
  | y :: l, b => if y.blk = b then l.head?.map (·.blk) else nxt l b
def slotOf (N : List Nd) (i : Nat) : Option Nat := (N.find? fun x => decide (x.rc.ms = (i : Int) + 1)).map (·.blk)
def slotCells (N : List Nd) (n : Nat) : List Value := (List.range n).map fun i => pt (slotOf N i)
def Bk.own (bp : Nat) (B : Bk) (b : Nat) : Prop := b = bp ∨ b = B.mp ∨ B.sv.ownBlock = some b ∨ B.gv.ownBlock = some b ∨ ∃ x ∈ B.N, b = x.blk ∨ b = x.rb
/-- what memory has to do with it -/
structure BookMem (w : World) (bp : Nat) (B : Bk) : Prop where
  book : Row w bp 74 [.map (some B.mp), B.sv, B.gv, .int .i64 B.put, .int .i64 (B.N.length : Nat)]
  map : RMap w B.mp B.mn (rowOf B.N)
  slots : w.ownsRow 0 92 1 B.sv B.gens.length (slotCells B.N B.gens.length)
  gen : w.ownsRow 0 33 1 B.gv B.gens.length (B.gens.map (Value.int .u32))
  node : ∀ x ∈ B.N, Row w x.blk 98 (x.cells (prv (inRow x.rc.key B.N) x.blk) (nxt (inRow x.rc.key B.N) x.blk))
  row : ∀ x ∈ B.N, Row w x.rb 94 [pt ((inRow x.rc.key B.N).head?.map (·.blk)), pt ((inRow x.rc.key B.N).getLast?.map (·.blk))]
/-- and what it has not -/
structure BookOk (bp : Nat) (B : Bk) : Prop where
  same : ∀ x ∈ B.N, ∀ y ∈ B.N, x.rb = y.rb ↔ x.rc.key = y.rc.key
  blks : (B.N.map (·.blk)).Nodup
  ms : (B.N.map (·.rc.ms)).Nodup
  slot : ∀ x ∈ B.N, ∃ i : Nat, x.rc.ms = (i : Int) + 1 ∧ B.gens[i]? = some x.rc.mg
  ser : B.N.Pairwise fun x y => x.ser < y.ser
  upto : ∀ x ∈ B.N, x.ser ≤ B.put
  ok : ∀ x ∈ B.N, x.rc.Ok
  gens : ∀ g ∈ B.gens, 0 ≤ g ∧ g ≤ B.put
  t0 : B.tag bp = 0
  t1 : B.tag B.mp = 1
  t2 : ∀ g, B.sv.ownBlock = some g → B.tag g = 2
  t3 : ∀ g, B.gv.ownBlock = some g → B.tag g = 3
  t4 : ∀ x ∈ B.N, B.tag x.blk = 4
  t5 : ∀ x ∈ B.N, B.tag x.rb = 5
  few : B.gens.length ≤ 100000
  fewp : 0 ≤ B.put ∧ B.put ≤ 100000
  fewm : B.mn ≤ 100000
structure BookAt (w : World) (bp : Nat) (B : Bk) : Prop where
  mem : BookMem w bp B
  ok : BookOk bp B
theorem own_move {w w' : World} {base e size n : Nat} {v : Value} {xs : List Value} (h : w.ownsRow base e size v n xs) (hb : ∀ g, v.ownBlock = some g → w'.heap[g]? = w.heap[g]?) : w'.ownsRow base e size v n xs := by
  refine ⟨h.1, ?_⟩
  rcases h.2 with q | ⟨g, cap, cur, e1, e2, e3, e4⟩
  · exact .inl q
  · exact .inr ⟨g, cap, cur, e1, e2, (hb g (by rw [e1]; rfl)).trans e3, e4⟩
theorem RMap.move {w w' : World} {b n : Nat} {f : Key → Option Nat} (h : RMap w b n f) (hb : w'.heap[b]? = w.heap[b]?) : RMap w' b n f := by
  obtain ⟨D, ⟨es, clock, h1, h2⟩, h3⟩ := h.ex
  exact ⟨D, ⟨es, clock, hb.trans h1, h2⟩, h3⟩
theorem BookMem.move {w w' : World} {bp : Nat} {B : Bk} (h : BookMem w bp B) (hb : ∀ b, B.own bp b → w'.heap[b]? = w.heap[b]?) : BookMem w' bp B :=
  ⟨(hb bp (.inl rfl)).trans h.book, h.map.move (hb _ (.inr (.inl rfl))), own_move h.slots fun g hg => hb g (.inr (.inr (.inl hg))), own_move h.gen fun g hg => hb g (.inr (.inr (.inr (.inl hg)))),
   fun x hx => (hb x.blk (.inr (.inr (.inr (.inr ⟨x, hx, .inl rfl⟩))))).trans (h.node x hx), fun x hx => (hb x.rb (.inr (.inr (.inr (.inr ⟨x, hx, .inr rfl⟩))))).trans (h.row x hx)⟩
theorem BookMem.lt {w : World} {bp : Nat} {B : Bk} (h : BookMem w bp B) {b : Nat} (hb : B.own bp b) : b < w.heap.size := by
  rcases hb with rfl | rfl | hb | hb | ⟨x, hx, rfl | rfl⟩
  · exact h.book.lt
  · exact h.map.lt
  · exact (h.slots.lt b hb).2
  · exact (h.gen.lt b hb).2
  · exact (h.node x hx).lt
  · exact (h.row x hx).lt
theorem BookAt.move {w w' : World} {bp : Nat} {B : Bk} (h : BookAt w bp B) (hb : ∀ b, B.own bp b → w'.heap[b]? = w.heap[b]?) : BookAt w' bp B := ⟨h.mem.move hb, h.ok⟩
theorem BookAt.below {w w' : World} {bp : Nat} {B : Bk} (h : BookAt w bp B) (hb : Below w.heap.size w w') : BookAt w' bp B := h.move fun b ho => hb.block b (h.mem.lt ho)
theorem BookAt.but {w w' : World} {bp : Nat} {B : Bk} {S : Nat → Prop} (h : BookAt w bp B) (hb : But S w w') (hs : ∀ b, B.own bp b → ¬ S b) : BookAt w' bp B := h.move fun b ho => hb.block b (h.mem.lt ho) (hs b ho)
/-- a slice that the call owns, written out -/
theorem own_form {w : World} {base e size n : Nat} {v : Value} {xs : List Value} (h : w.ownsRow base e size v n xs) :
    ∃ A c, v = .slice A n c ∧ ∀ j u, xs[j]? = some u → ∃ g, A = some ⟨g, 0, none⟩ ∧ w.cell? ⟨g, j, none⟩ = some u ∧ w.frozen? ⟨g, j, none⟩ = false := by
  rcases h.2 with ⟨e1, e2⟩ | ⟨g, cap, cur, e1, _⟩
  · refine ⟨none, 0, by rw [e1, e2], fun j u hj => ?_⟩
    have h1 := h.1
    have := (List.getElem?_eq_some_iff.1 hj).1
    rw [h1, e2] at this
    omega
  · refine ⟨_, cap, e1, fun j u hj => ⟨g, rfl, ?_, ?_⟩⟩
    · subst e1
      have hlt := (List.getElem?_eq_some_iff.1 hj).1
      rw [h.cellAt _ (by rw [← h.1]; exact hlt)]
      exact hj
    · subst e1
      exact h.frozenAt j
theorem slotCells_len (N : List Nd) (n : Nat) : (slotCells N n).length = n := by simp [slotCells]
theorem slotCells_get {N : List Nd} {n i : Nat} (h : i < n) : (slotCells N n)[i]? = some (pt (slotOf N i)) := by simp [slotCells, h]
theorem nodup_inj {α β : Type} {f : α → β} : ∀ {l : List α}, (l.map f).Nodup → ∀ {x y : α}, x ∈ l → y ∈ l → f x = f y → x = y
  | [], _, x, y, hx, _, _ => by cases hx
  | a :: l, hn, x, y, hx, hy, h => by
    rw [List.map_cons, List.nodup_cons] at hn
    rcases List.mem_cons.1 hx with e | e
    · rcases List.mem_cons.1 hy with e2 | e2
      · rw [e, e2]
      · exact absurd (List.mem_map.2 ⟨y, e2, by rw [← h, e]⟩) hn.1
    · rcases List.mem_cons.1 hy with e2 | e2
      · exact absurd (List.mem_map.2 ⟨x, e, by rw [h, e2]⟩) hn.1
      · exact nodup_inj hn.2 e e2 h
/-- a wait's own slot -/
theorem slotOf_mem {N : List Nd} (hn : (N.map (·.rc.ms)).Nodup) {x : Nd} (hx : x ∈ N) {i : Nat} (hi : x.rc.ms = (i : Int) + 1) : slotOf N i = some x.blk := by
  unfold slotOf
  have h1 : (N.find? fun y => decide (y.rc.ms = (i : Int) + 1)).isSome := by
    rw [List.find?_isSome]
    exact ⟨x, hx, decide_eq_true hi⟩
  obtain ⟨y, hy⟩ := Option.isSome_iff_exists.1 h1
  have hy1 := List.mem_of_find?_eq_some hy
  have hy2 : y.rc.ms = (i : Int) + 1 := by have := List.find?_some hy; simpa using this
  rw [hy]
  have : y = x := by
    have e : y.rc.ms = x.rc.ms := hy2.trans hi.symm
    exact nodup_inj hn hy1 hx e
  rw [this]; rfl
theorem slotOf_some {N : List Nd} {i b : Nat} (h : slotOf N i = some b) : ∃ x ∈ N, x.rc.ms = (i : Int) + 1 ∧ x.blk = b := by
  unfold slotOf at h
  obtain ⟨x, hx, rfl⟩ := Option.map_eq_some_iff.1 h
  exact ⟨x, List.mem_of_find?_eq_some hx, by have := List.find?_some hx; simpa using this, rfl⟩
theorem slotOf_none {N : List Nd} {i : Nat} (h : slotOf N i = none) : ∀ x ∈ N, x.rc.ms ≠ (i : Int) + 1 := by
  unfold slotOf at h
  rw [Option.map_eq_none_iff, List.find?_eq_none] at h
  intro x hx e
  exact h x hx (decide_eq_true e)
/-- the fields of a book -/
theorem BookAt.fields {w : World} {bp : Nat} {B : Bk} (h : BookAt w bp B) :
    w.cell? ⟨bp, 0, none⟩ = some (.map (some B.mp)) ∧ w.cell? ⟨bp, 1, none⟩ = some B.sv ∧ w.cell? ⟨bp, 2, none⟩ = some B.gv ∧ w.cell? ⟨bp, 3, none⟩ = some (.int .i64 B.put) ∧ w.cell? ⟨bp, 4, none⟩ = some (.int .i64 (B.N.length : Nat)) :=
  ⟨h.mem.book.cell 0, h.mem.book.cell 1, h.mem.book.cell 2, h.mem.book.cell 3, h.mem.book.cell 4⟩
theorem BookAt.frozen {w : World} {bp : Nat} {B : Bk} (h : BookAt w bp B) (j : Nat) : w.frozen? ⟨bp, j, none⟩ = false := h.mem.book.frozen j
/-- Count -/
theorem count_c (bp : Nat) (B : Bk) (w : World) (h : BookAt w bp B) :
    Calls Try.prog 18 #[.pointer (some ⟨bp, 0, none⟩)] w fun e w' => e = .returned (.int .i64 (B.N.length : Nat)) ∧ w = w' := by
  obtain ⟨_, _, _, _, c4⟩ := h.fields
  generalize B.N.length = n at *
  clear h
  go_enter Try.func18, Try.ntmps18
  go_wp2
  go_ret
  exact ⟨rfl, rfl⟩
end Go.Proofs.Ytkdiibgjkipdnaa
