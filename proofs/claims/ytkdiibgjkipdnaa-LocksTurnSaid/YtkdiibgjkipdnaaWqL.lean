/-
  A book with one wait more.
-/
import Derived.Test.YtkdiibgjkipdnaaWqK
namespace Go.Proofs.Ytkdiibgjkipdnaa
open Go.RowKit Go.Maps
set_option linter.unusedSimpArgs false

def Bk.with1 (B : Bk) (i : Nat) (x : Nd) (mn : Nat) : Bk :=
  { B with N := B.N ++ [x], gens := B.gens.set i x.rc.mg, put := B.put + 1, mn := mn, tag := fun b => if b = x.blk then 4 else if b = x.rb then 5 else B.tag b }
def putS (bp : Nat) (B : Bk) (x : Nd) (b : Nat) : Prop := b = bp ∨ b = B.mp ∨ B.sv.ownBlock = some b ∨ B.gv.ownBlock = some b ∨ b = x.rb ∨ (inRow x.rc.key B.N).getLast?.map (·.blk) = some b
/-- what a new wait is -/
structure NewNd (w : World) (B : Bk) (i : Nat) (x : Nd) : Prop where
  lt : i < B.gens.length
  free : slotOf B.N i = none
  ms : x.rc.ms = (i : Int) + 1
  mg : B.gens[i]? = some (x.rc.mg - 1)
  ser : x.ser = B.put + 1
  ok : x.rc.Ok
  blk : w.heap.size ≤ x.blk
  row : (∃ y ∈ B.N, y.rc.key = x.rc.key ∧ x.rb = y.rb) ∨ ((∀ y ∈ B.N, y.rc.key ≠ x.rc.key) ∧ w.heap.size ≤ x.rb ∧ x.rb ≠ x.blk)
theorem getElem?_set_same {α : Type} {l : List α} {i : Nat} {a : α} (h : i < l.length) : (l.set i a)[i]? = some a := by simp [h]
theorem getElem?_set_other {α : Type} {l : List α} {i j : Nat} {a : α} (h : i ≠ j) : (l.set i a)[j]? = l[j]? := by simp [h]
theorem slotOf_append {N : List Nd} {x : Nd} {j : Nat} (hj : slotOf N j = none) : slotOf (N ++ [x]) j = if x.rc.ms = (j : Int) + 1 then some x.blk else none := by
  unfold slotOf at *
  rw [Option.map_eq_none_iff] at hj
  rw [List.find?_append, hj]
  by_cases e : x.rc.ms = (j : Int) + 1
  · rw [if_pos e]; simp [e]
  · rw [if_neg e]; simp [e]
theorem slotOf_append_old {N : List Nd} {x : Nd} {j b : Nat} (hj : slotOf N j = some b) : slotOf (N ++ [x]) j = some b := by
  unfold slotOf at *
  obtain ⟨y, hy, e⟩ := Option.map_eq_some_iff.1 hj
  rw [List.find?_append, hy, Option.some_or, Option.map_some, e]
theorem slotCells_put {N : List Nd} {x : Nd} {n i : Nat} (hi : slotOf N i = none) (hx : x.rc.ms = (i : Int) + 1) : slotCells (N ++ [x]) n = (slotCells N n).set i (pt (some x.blk)) := by
  refine List.ext_getElem? fun j => ?_
  by_cases hj : j < n
  · rw [slotCells_get hj]
    by_cases e : i = j
    · subst e
      rw [getElem?_set_same (by rw [slotCells_len]; exact hj), slotOf_append hi, if_pos hx]
    · rw [getElem?_set_other e, slotCells_get hj]
      cases hs : slotOf N j with
      | none => rw [slotOf_append hs, if_neg (by omega)]
      | some b => rw [slotOf_append_old hs]
  · rw [List.getElem?_eq_none (by rw [slotCells_len]; omega), List.getElem?_eq_none (by rw [List.length_set, slotCells_len]; omega)]
theorem rowOf_append {N : List Nd} {x : Nd} (hx : ∀ y ∈ N, y.rc.key = x.rc.key → y.rb = x.rb) (k : Key) : rowOf (N ++ [x]) k = if k = x.rc.key then some x.rb else rowOf N k := by
  unfold rowOf
  rw [inRow_append]
  by_cases e : k = x.rc.key
  · subst e
    rw [if_pos rfl, inRow_one_same]
    cases hl : inRow x.rc.key N with
    | nil => rfl
    | cons y l =>
      obtain ⟨h1, h2⟩ := inRow_mem (k := x.rc.key) (N := N) (x := y) (by rw [hl]; simp)
      simp [hx y h1 h2]
  · rw [if_neg e, inRow_one_other (fun e2 => e e2.symm), List.append_nil]
theorem map_set' {α β : Type} (f : α → β) (l : List α) (i : Nat) (a : α) : (l.set i a).map f = (l.map f).set i (f a) := by
  rw [List.map_set]
theorem BookTo.put {w wf : World} {bp : Nat} {B : Bk} (H : BookAt w bp B) {i : Nat} {x : Nd} {mn : Nat} (hx : NewNd w B i x) (hp : B.put ≤ 99999) (hm : mn ≤ 100000)
    (hB : But (putS bp B x) w wf)
    (hbk : Row wf bp 74 [.map (some B.mp), B.sv, B.gv, .int .i64 (B.put + 1), .int .i64 ((B.N.length : Nat) + 1)])
    (hmap : RMap wf B.mp mn (rowOf (B.N ++ [x])))
    (hs : wf.ownsRow 0 92 1 B.sv B.gens.length ((slotCells B.N B.gens.length).set i (pt (some x.blk))))
    (hg : wf.ownsRow 0 33 1 B.gv B.gens.length ((B.gens.map (Value.int .u32)).set i (.int .u32 x.rc.mg)))
    (hn : Row wf x.blk 98 (x.cells ((inRow x.rc.key B.N).getLast?.map (·.blk)) none))
    (hr : Row wf x.rb 94 [pt ((inRow x.rc.key B.N ++ [x]).head?.map (·.blk)), pt (some x.blk)])
    (hl : ∀ y, (inRow x.rc.key B.N).getLast? = some y → Row wf y.blk 98 (y.cells (prv (inRow x.rc.key B.N) y.blk) (some x.blk))) :
    BookTo w bp B wf (B.with1 i x mn) := by
  have hlen : (B.with1 i x mn).gens.length = B.gens.length := by simp [Bk.with1]
  have hbp := H.mem.book.lt
  have hblk : ∀ y ∈ B.N, y.blk ≠ x.blk := fun y hy e => by have := (H.mem.node y hy).lt; have := hx.blk; omega
  have hnew : x.blk ∉ (inRow x.rc.key B.N).map (·.blk) := fun e => by
    obtain ⟨y, hy, e⟩ := List.mem_map.1 e
    exact hblk y (inRow_mem hy).1 e
  have hrb : ∀ y ∈ B.N, x.rb = y.rb ↔ x.rc.key = y.rc.key := fun y hy => by
    rcases hx.row with ⟨z, hz, e1, e2⟩ | ⟨h1, h2, _⟩
    · rw [e2, ← e1]; exact H.ok.same z hz y hy
    · have h3 := (H.mem.row y hy).lt
      exact ⟨fun e => by omega, fun e => absurd e.symm (h1 y hy)⟩
  have hrne : x.rb ≠ x.blk := by
    rcases hx.row with ⟨z, hz, _, e2⟩ | ⟨_, _, h3⟩
    · have h3 := (H.mem.row z hz).lt
      have := hx.blk
      omega
    · exact h3
  have hkeep : ∀ b, b < w.heap.size → ¬ putS bp B x b → wf.heap[b]? = w.heap[b]? := hB.block
  have htag : ∀ b, b < w.heap.size → b ≠ x.rb → (B.with1 i x mn).tag b = B.tag b := fun b hb h1 => by
    have h2 : b ≠ x.blk := by have := hx.blk; omega
    simp only [Bk.with1]
    rw [if_neg h2, if_neg h1]
  have hrbt : ∀ b, b < w.heap.size → B.tag b ≠ 5 → b ≠ x.rb := fun b hb ht e => by
    rcases hx.row with ⟨z, hz, _, e2⟩ | ⟨_, h2, _⟩
    · exact ht (by rw [e, e2]; exact H.ok.t5 z hz)
    · omega
  refine ⟨⟨⟨?_, ?_, ?_, ?_, ?_, ?_⟩, ?_⟩, ?_, ?_⟩
  · have e : (((B.with1 i x mn).N.length : Nat) : Int) = (B.N.length : Nat) + 1 := by simp [Bk.with1]
    rw [e]; exact hbk
  · exact hmap
  · rw [hlen]
    have e := slotCells_put (n := B.gens.length) hx.free hx.ms
    exact e ▸ hs
  · rw [hlen]
    have e := map_set' (Value.int .u32) B.gens i x.rc.mg
    exact e ▸ hg
  · intro y hy
    rcases List.mem_append.1 hy with hy | hy
    · have hy1 := H.mem.node y hy
      have t := H.ok.t4 y hy
      by_cases hk : x.rc.key = y.rc.key
      · have hyl : y.blk ∈ (inRow x.rc.key B.N).map (·.blk) := List.mem_map.2 ⟨y, mem_inRow hy hk.symm, rfl⟩
        have e1 : inRow y.rc.key (B.with1 i x mn).N = inRow x.rc.key B.N ++ [x] := by
          change inRow y.rc.key (B.N ++ [x]) = _
          rw [inRow_append, ← hk, inRow_one_same]
        rw [e1, prv_append_old hyl]
        by_cases hlast : (inRow x.rc.key B.N).getLast?.map (·.blk) = some y.blk
        · obtain ⟨z, hz, e2⟩ := Option.map_eq_some_iff.1 hlast
          have hzm := List.mem_of_mem_getLast? hz
          have : z = y := nodup_inj H.ok.blks (inRow_mem hzm).1 hy e2
          subst this
          rw [nxt_append_last hz (inRow_blks H.ok.blks _)]
          exact hl z hz
        · rw [nxt_append_old hyl hlast]
          have e3 : wf.heap[y.blk]? = w.heap[y.blk]? := hkeep _ hy1.lt (by
            rintro (e | e | e | e | e | e)
            · rw [e, H.ok.t0] at t; cases t
            · rw [e, H.ok.t1] at t; cases t
            · rw [H.ok.t2 _ e] at t; cases t
            · rw [H.ok.t3 _ e] at t; cases t
            · exact hrbt _ hy1.lt (by rw [t]; decide) e
            · exact hlast e)
          rw [← hk] at hy1
          exact e3.trans hy1
      · have e1 : inRow y.rc.key (B.with1 i x mn).N = inRow y.rc.key B.N := by
          change inRow y.rc.key (B.N ++ [x]) = _
          rw [inRow_append, inRow_one_other hk, List.append_nil]
        rw [e1]
        have e3 : wf.heap[y.blk]? = w.heap[y.blk]? := hkeep _ hy1.lt (by
          rintro (e | e | e | e | e | e)
          · rw [e, H.ok.t0] at t; cases t
          · rw [e, H.ok.t1] at t; cases t
          · rw [H.ok.t2 _ e] at t; cases t
          · rw [H.ok.t3 _ e] at t; cases t
          · exact hrbt _ hy1.lt (by rw [t]; decide) e
          · obtain ⟨z, hz, e2⟩ := Option.map_eq_some_iff.1 e
            obtain ⟨hz1, hz2⟩ := inRow_mem (List.mem_of_mem_getLast? hz)
            have : z = y := nodup_inj H.ok.blks hz1 hy e2
            subst this
            exact hk hz2.symm)
        exact e3.trans hy1
    · rw [List.mem_singleton] at hy
      subst hy
      have e1 : inRow y.rc.key (B.with1 i y mn).N = inRow y.rc.key B.N ++ [y] := by
        change inRow y.rc.key (B.N ++ [y]) = _
        rw [inRow_append, inRow_one_same]
      rw [e1, prv_append_new hnew, nxt_append_new hnew]
      exact hn
  · intro y hy
    rcases List.mem_append.1 hy with hy | hy
    · have hy1 := H.mem.row y hy
      have t := H.ok.t5 y hy
      by_cases hk : x.rc.key = y.rc.key
      · have e1 : inRow y.rc.key (B.with1 i x mn).N = inRow x.rc.key B.N ++ [x] := by
          change inRow y.rc.key (B.N ++ [x]) = _
          rw [inRow_append, ← hk, inRow_one_same]
        rw [e1, ← (hrb y hy).2 hk, List.getLast?_append]
        exact hr
      · have e1 : inRow y.rc.key (B.with1 i x mn).N = inRow y.rc.key B.N := by
          change inRow y.rc.key (B.N ++ [x]) = _
          rw [inRow_append, inRow_one_other hk, List.append_nil]
        rw [e1]
        have e3 : wf.heap[y.rb]? = w.heap[y.rb]? := hkeep _ hy1.lt (by
          rintro (e | e | e | e | e | e)
          · rw [e, H.ok.t0] at t; cases t
          · rw [e, H.ok.t1] at t; cases t
          · rw [H.ok.t2 _ e] at t; cases t
          · rw [H.ok.t3 _ e] at t; cases t
          · exact hk ((hrb y hy).1 e.symm)
          · obtain ⟨z, hz, e2⟩ := Option.map_eq_some_iff.1 e
            have := H.ok.t4 z (inRow_mem (List.mem_of_mem_getLast? hz)).1
            rw [e2, t] at this; cases this)
        exact e3.trans hy1
    · rw [List.mem_singleton] at hy
      subst hy
      have e1 : inRow y.rc.key (B.with1 i y mn).N = inRow y.rc.key B.N ++ [y] := by
        change inRow y.rc.key (B.N ++ [y]) = _
        rw [inRow_append, inRow_one_same]
      rw [e1, List.getLast?_append]
      exact hr
  · refine ⟨?_, ?_, ?_, ?_, ?_, ?_, ?_, ?_, ?_, ?_, ?_, ?_, ?_, ?_, ?_, ?_, hm⟩
    · intro a ha b hb
      rcases List.mem_append.1 ha with qa | qa <;> rcases List.mem_append.1 hb with qb | qb
      · exact H.ok.same a qa b qb
      · rw [List.mem_singleton] at qb; subst qb
        rw [eq_comm, hrb a qa, eq_comm]
      · rw [List.mem_singleton] at qa; subst qa
        exact hrb b qb
      · rw [List.mem_singleton] at qa qb; subst qa; subst qb
        exact ⟨fun _ => rfl, fun _ => rfl⟩
    · change ((B.N ++ [x]).map (·.blk)).Nodup
      rw [List.map_append, List.nodup_append]
      refine ⟨H.ok.blks, by simp, ?_⟩
      intro a ha b hb
      simp at hb; subst hb
      obtain ⟨y, hy, rfl⟩ := List.mem_map.1 ha
      exact hblk y hy
    · change ((B.N ++ [x]).map (·.rc.ms)).Nodup
      rw [List.map_append, List.nodup_append]
      refine ⟨H.ok.ms, by simp, ?_⟩
      intro a ha b hb
      simp at hb; subst hb
      obtain ⟨y, hy, rfl⟩ := List.mem_map.1 ha
      rw [hx.ms]
      exact slotOf_none hx.free y hy
    · intro y hy
      rcases List.mem_append.1 hy with hy | hy
      · obtain ⟨j, h1, h2⟩ := H.ok.slot y hy
        have hij : i ≠ j := fun e => by subst e; exact slotOf_none hx.free y hy h1
        exact ⟨j, h1, by change (B.gens.set i _)[j]? = _; rw [getElem?_set_other hij]; exact h2⟩
      · rw [List.mem_singleton] at hy; subst hy
        exact ⟨i, hx.ms, by change (B.gens.set i _)[i]? = _; rw [getElem?_set_same hx.lt]⟩
    · change (B.N ++ [x]).Pairwise _
      rw [List.pairwise_append]
      refine ⟨H.ok.ser, by simp, ?_⟩
      intro a ha b hb
      simp at hb; subst hb
      have := H.ok.upto a ha
      have := hx.ser
      omega
    · intro y hy
      change y.ser ≤ B.put + 1
      rcases List.mem_append.1 hy with hy | hy
      · have := H.ok.upto y hy; omega
      · rw [List.mem_singleton] at hy; subst hy; have := hx.ser; omega
    · intro y hy
      rcases List.mem_append.1 hy with hy | hy
      · exact H.ok.ok y hy
      · rw [List.mem_singleton] at hy; subst hy; exact hx.ok
    · intro g hg
      change 0 ≤ g ∧ g ≤ B.put + 1
      rcases List.mem_or_eq_of_mem_set hg with e | e
      · have := H.ok.gens g e; omega
      · have := H.ok.gens _ (List.mem_of_getElem? hx.mg); omega
    · have t := H.ok.t0
      rw [htag bp hbp (hrbt bp hbp (by rw [t]; decide))]; exact t
    · have t := H.ok.t1
      have := htag B.mp H.mem.map.lt (hrbt _ H.mem.map.lt (by rw [t]; decide))
      exact this.trans t
    · intro g e
      have t := H.ok.t2 g e
      have hlt := (H.mem.slots.lt g e).2
      exact (htag g hlt (hrbt g hlt (by rw [t]; decide))).trans t
    · intro g e
      have t := H.ok.t3 g e
      have hlt := (H.mem.gen.lt g e).2
      exact (htag g hlt (hrbt g hlt (by rw [t]; decide))).trans t
    · intro y hy
      rcases List.mem_append.1 hy with hy | hy
      · have t := H.ok.t4 y hy
        have hlt := (H.mem.node y hy).lt
        exact (htag _ hlt (hrbt _ hlt (by rw [t]; decide))).trans t
      · rw [List.mem_singleton] at hy; subst hy
        simp [Bk.with1]
    · intro y hy
      rcases List.mem_append.1 hy with hy | hy
      · have t := H.ok.t5 y hy
        have hlt := (H.mem.row y hy).lt
        have h2 : y.rb ≠ x.blk := by have := hx.blk; omega
        simp only [Bk.with1]
        rw [if_neg h2]
        split
        · rfl
        · exact t
      · rw [List.mem_singleton] at hy; subst hy
        simp [Bk.with1, hrne]
    · rw [hlen]; exact H.ok.few
    · change 0 ≤ B.put + 1 ∧ B.put + 1 ≤ 100000
      have := H.ok.fewp; omega
  · refine ⟨hB.os, hB.tape, hB.output, hB.size, fun k hk hn => hB.block k hk (fun e => hn ?_)⟩
    rcases e with e | e | e | e | e | e
    · exact .inl e
    · exact .inr (.inl e)
    · exact .inr (.inr (.inl e))
    · exact .inr (.inr (.inr (.inl e)))
    · rcases hx.row with ⟨z, hz, _, e2⟩ | ⟨_, h2, _⟩
      · exact .inr (.inr (.inr (.inr ⟨z, hz, .inr (e.trans e2)⟩)))
      · omega
    · obtain ⟨z, hz, e2⟩ := Option.map_eq_some_iff.1 e
      exact .inr (.inr (.inr (.inr ⟨z, (inRow_mem (List.mem_of_mem_getLast? hz)).1, .inl e2.symm⟩)))
  · intro b hb
    rcases hb with hb | hb | hb | hb | ⟨y, hy, hb⟩
    · exact .inl (.inl hb)
    · exact .inl (.inr (.inl hb))
    · exact .inl (.inr (.inr (.inl hb)))
    · exact .inl (.inr (.inr (.inr (.inl hb))))
    · rcases List.mem_append.1 hy with hy | hy
      · exact .inl (.inr (.inr (.inr (.inr ⟨y, hy, hb⟩))))
      · rw [List.mem_singleton] at hy; subst hy
        rcases hb with hb | hb
        · exact .inr (by rw [hb]; exact hx.blk)
        · rcases hx.row with ⟨z, hz, _, e2⟩ | ⟨_, h2, _⟩
          · exact .inl (.inr (.inr (.inr (.inr ⟨z, hz, .inr (hb.trans e2)⟩))))
          · exact .inr (by omega)
end Go.Proofs.Ytkdiibgjkipdnaa
