/-
  A book with one wait less.
-/
import Derived.Test.YtkdiibgjkipdnaaWqN
namespace Go.Proofs.Ytkdiibgjkipdnaa
open Go.RowKit Go.Maps
set_option linter.unusedSimpArgs false

def less (N : List Nd) (b : Nat) : List Nd := N.filter fun y => decide (y.blk ≠ b)
theorem mem_less {N : List Nd} {b : Nat} {y : Nd} : y ∈ less N b ↔ y ∈ N ∧ y.blk ≠ b := by simp [less, List.mem_filter]
theorem less_sub (N : List Nd) (b : Nat) : (less N b).Sublist N := List.filter_sublist
theorem less_none {N : List Nd} {b : Nat} (h : b ∉ N.map (·.blk)) : less N b = N := by
  unfold less
  rw [List.filter_eq_self]
  intro y hy
  exact decide_eq_true fun e => h (List.mem_map.2 ⟨y, hy, e⟩)
theorem less_mid {l1 l2 : List Nd} {x : Nd} (h : ((l1 ++ x :: l2).map (·.blk)).Nodup) : less (l1 ++ x :: l2) x.blk = l1 ++ l2 := by
  rw [List.map_append, List.map_cons, List.nodup_append, List.nodup_cons] at h
  have h1 : x.blk ∉ l1.map (·.blk) := fun e => h.2.2 _ e _ List.mem_cons_self rfl
  have e1 := less_none h1
  have e2 := less_none h.2.1.1
  unfold less at *
  rw [List.filter_append, e1, List.filter_cons, if_neg (by simp), e2]
theorem inRow_less (k : Key) (N : List Nd) (b : Nat) : inRow k (less N b) = less (inRow k N) b := by
  unfold inRow less
  rw [List.filter_filter, List.filter_filter]
  congr 1
  funext y
  exact Bool.and_comm _ _
def Bk.cut (B : Bk) (b : Nat) : Bk := { B with N := less B.N b }
def cutS (bp : Nat) (B : Bk) (x : Nd) (l1 l2 : List Nd) (b : Nat) : Prop := b = bp ∨ b = B.mp ∨ B.sv.ownBlock = some b ∨ b = x.rb ∨ l1.getLast?.map (·.blk) = some b ∨ l2.head?.map (·.blk) = some b
theorem less_length {N : List Nd} {x : Nd} (hn : (N.map (·.blk)).Nodup) (hx : x ∈ N) : (less N x.blk).length + 1 = N.length := by
  obtain ⟨l1, l2, rfl⟩ := List.append_of_mem hx
  rw [less_mid hn]
  simp only [List.length_append, List.length_cons]; omega
theorem slotOf_less {N : List Nd} (hm : (N.map (·.rc.ms)).Nodup) (hb : (N.map (·.blk)).Nodup) {x : Nd} (hx : x ∈ N) {i : Nat} (hi : x.rc.ms = (i : Int) + 1) (j : Nat) : slotOf (less N x.blk) j = if i = j then none else slotOf N j := by
  have hm' : ((less N x.blk).map (·.rc.ms)).Nodup := hm.sublist ((less_sub N _).map _)
  by_cases e : i = j
  · rw [if_pos e]
    cases hs : slotOf (less N x.blk) j with
    | none => rfl
    | some b =>
      obtain ⟨y, hy, h1, h2⟩ := slotOf_some hs
      obtain ⟨h3, h4⟩ := mem_less.1 hy
      have : y = x := nodup_inj hm h3 hx (by rw [h1, hi, e])
      exact absurd (by rw [this]) h4
  · rw [if_neg e]
    cases hs : slotOf N j with
    | none =>
      cases hs2 : slotOf (less N x.blk) j with
      | none => rfl
      | some b =>
        obtain ⟨y, hy, h1, h2⟩ := slotOf_some hs2
        exact absurd h1 (slotOf_none hs y (mem_less.1 hy).1)
    | some b =>
      obtain ⟨y, hy, h1, h2⟩ := slotOf_some hs
      have hne : y.blk ≠ x.blk := fun e2 => by
        have : y = x := nodup_inj hb hy hx e2
        subst this
        omega
      rw [slotOf_mem hm' (mem_less.2 ⟨hy, hne⟩) h1, h2]
theorem slotCells_less {N : List Nd} (hm : (N.map (·.rc.ms)).Nodup) (hb : (N.map (·.blk)).Nodup) {x : Nd} (hx : x ∈ N) {i : Nat} (hi : x.rc.ms = (i : Int) + 1) (n : Nat) : slotCells (less N x.blk) n = (slotCells N n).set i (.pointer none) := by
  refine List.ext_getElem? fun j => ?_
  by_cases hj : j < n
  · rw [slotCells_get hj, slotOf_less hm hb hx hi]
    by_cases e : i = j
    · subst e
      rw [getElem?_set_same (by rw [slotCells_len]; exact hj), if_pos rfl]; rfl
    · rw [getElem?_set_other e, slotCells_get hj, if_neg e]
  · rw [List.getElem?_eq_none (by rw [slotCells_len]; omega), List.getElem?_eq_none (by rw [List.length_set, slotCells_len]; omega)]
theorem rowOf_less {bp : Nat} {B : Bk} (h : BookOk bp B) {x : Nd} {l1 l2 : List Nd} (hl : inRow x.rc.key B.N = l1 ++ x :: l2) (k : Key) : rowOf (less B.N x.blk) k = if k = x.rc.key ∧ l1 ++ l2 = [] then none else rowOf B.N k := by
  unfold rowOf
  rw [inRow_less]
  by_cases e : k = x.rc.key
  · subst e
    have hb := inRow_blks h.blks x.rc.key
    rw [hl] at hb ⊢
    rw [less_mid hb]
    by_cases e2 : l1 ++ l2 = []
    · rw [if_pos ⟨rfl, e2⟩, e2]; rfl
    · rw [if_neg (fun h => e2 h.2)]
      have hmem : ∀ y ∈ l1 ++ x :: l2, y ∈ B.N ∧ y.rc.key = x.rc.key := fun y hy => inRow_mem (by rw [hl]; exact hy)
      cases l1 with
      | cons a l => rfl
      | nil =>
        cases l2 with
        | nil => exact absurd rfl e2
        | cons a l =>
          obtain ⟨h1, h2⟩ := hmem a (by simp)
          obtain ⟨h3, h4⟩ := hmem x (by simp)
          simp only [List.nil_append, List.head?_cons, Option.map_some]
          rw [(h.same a h1 x h3).2 h2]
  · rw [if_neg (fun h => e h.1)]
    have : less (inRow k B.N) x.blk = inRow k B.N := less_none fun e2 => by
      obtain ⟨y, hy, e3⟩ := List.mem_map.1 e2
      obtain ⟨h1, h2⟩ := inRow_mem hy
      have hx : x ∈ B.N := (inRow_mem (k := x.rc.key) (by rw [hl]; simp)).1
      have : y = x := nodup_inj h.blks h1 hx e3
      subst this
      exact e h2.symm
    rw [this]
theorem BookTo.cut {w wf : World} {bp : Nat} {B : Bk} (H : BookAt w bp B) {i : Nat} {x : Nd} {l1 l2 : List Nd} (hl : inRow x.rc.key B.N = l1 ++ x :: l2) (hi : x.rc.ms = (i : Int) + 1)
    (hB : But (cutS bp B x l1 l2) w wf)
    (hbk : Row wf bp 74 [.map (some B.mp), B.sv, B.gv, .int .i64 B.put, .int .i64 ((B.N.length : Nat) - 1)])
    (hmap : RMap wf B.mp B.mn fun k => if k = x.rc.key ∧ l1 ++ l2 = [] then none else rowOf B.N k)
    (hs : wf.ownsRow 0 92 1 B.sv B.gens.length ((slotCells B.N B.gens.length).set i (.pointer none)))
    (hr : l1 ++ l2 ≠ [] → Row wf x.rb 94 [pt ((l1 ++ l2).head?.map (·.blk)), pt ((l1 ++ l2).getLast?.map (·.blk))])
    (hy : ∀ y, l1.getLast? = some y → Row wf y.blk 98 (y.cells (prv (l1 ++ x :: l2) y.blk) (l2.head?.map (·.blk))))
    (hz : ∀ z, l2.head? = some z → Row wf z.blk 98 (z.cells (l1.getLast?.map (·.blk)) (nxt (l1 ++ x :: l2) z.blk))) :
    BookTo w bp B wf (B.cut x.blk) := by
  have hx : x ∈ B.N := (inRow_mem (k := x.rc.key) (by rw [hl]; simp)).1
  have hbl := inRow_blks H.ok.blks x.rc.key
  rw [hl] at hbl
  have hrow : inRow x.rc.key (B.cut x.blk).N = l1 ++ l2 := by
    change inRow x.rc.key (less B.N x.blk) = _
    rw [inRow_less, hl, less_mid hbl]
  have hoth : ∀ k, k ≠ x.rc.key → inRow k (B.cut x.blk).N = inRow k B.N := fun k hk => by
    change inRow k (less B.N x.blk) = _
    rw [inRow_less]
    exact less_none fun e2 => by
      obtain ⟨y, hy, e3⟩ := List.mem_map.1 e2
      obtain ⟨h1, h2⟩ := inRow_mem hy
      have : y = x := nodup_inj H.ok.blks h1 hx e3
      subst this
      exact hk h2.symm
  have hin : ∀ y ∈ l1 ++ x :: l2, y ∈ B.N ∧ y.rc.key = x.rc.key := fun y hy => inRow_mem (by rw [hl]; exact hy)
  rw [List.map_append, List.map_cons, List.nodup_append, List.nodup_cons] at hbl
  have hkeep : ∀ b, b < w.heap.size → ¬ cutS bp B x l1 l2 b → wf.heap[b]? = w.heap[b]? := hB.block
  have hlast1 : ∀ b, l1.getLast?.map (·.blk) = some b → ∃ y ∈ l1, y.blk = b ∧ l1.getLast? = some y := fun b h => by
    obtain ⟨y, h1, h2⟩ := Option.map_eq_some_iff.1 h
    exact ⟨y, List.mem_of_mem_getLast? h1, h2, h1⟩
  have hhead2 : ∀ b, l2.head?.map (·.blk) = some b → ∃ y ∈ l2, y.blk = b ∧ l2.head? = some y := fun b h => by
    obtain ⟨y, h1, h2⟩ := Option.map_eq_some_iff.1 h
    exact ⟨y, List.mem_of_mem_head? h1, h2, h1⟩
  refine ⟨⟨⟨?_, ?_, ?_, ?_, ?_, ?_⟩, ?_⟩, ?_, ?_⟩
  · have e : (((B.cut x.blk).N.length : Nat) : Int) = (B.N.length : Nat) - 1 := by
      have := less_length H.ok.blks hx
      change ((less B.N x.blk).length : Int) = _
      omega
    rw [e]; exact hbk
  · have e : (fun k => if k = x.rc.key ∧ l1 ++ l2 = [] then none else rowOf B.N k) = rowOf (B.cut x.blk).N := by
      funext k; exact (rowOf_less H.ok hl k).symm
    exact e ▸ hmap
  · exact (slotCells_less H.ok.ms H.ok.blks hx hi B.gens.length) ▸ hs
  · refine own_move H.mem.gen fun g hg => hkeep g (H.mem.gen.lt g hg).2 ?_
    have t := H.ok.t3 g hg
    rintro (e | e | e | e | e | e)
    · rw [e, H.ok.t0] at t; cases t
    · rw [e, H.ok.t1] at t; cases t
    · rw [H.ok.t2 _ e] at t; cases t
    · rw [e, H.ok.t5 x hx] at t; cases t
    · obtain ⟨y, h1, h2, _⟩ := hlast1 _ e
      rw [← h2, H.ok.t4 y (hin y (by simp [h1])).1] at t; cases t
    · obtain ⟨y, h1, h2, _⟩ := hhead2 _ e
      rw [← h2, H.ok.t4 y (hin y (by simp [h1])).1] at t; cases t
  · intro y hy'
    obtain ⟨hyN, hyx⟩ := mem_less.1 hy'
    have hy1 := H.mem.node y hyN
    have t := H.ok.t4 y hyN
    have hkp : l1.getLast?.map (·.blk) ≠ some y.blk → l2.head?.map (·.blk) ≠ some y.blk → wf.heap[y.blk]? = w.heap[y.blk]? := fun q1 q2 => hkeep _ hy1.lt (by
      rintro (e | e | e | e | e | e)
      · rw [e, H.ok.t0] at t; cases t
      · rw [e, H.ok.t1] at t; cases t
      · rw [H.ok.t2 _ e] at t; cases t
      · rw [e, H.ok.t5 x hx] at t; cases t
      · exact q1 e
      · exact q2 e)
    by_cases hk : y.rc.key = x.rc.key
    · rw [hk, hrow]
      rw [hk, hl] at hy1
      have hym : y ∈ l1 ++ x :: l2 := by rw [← hl]; exact mem_inRow hyN hk
      rcases List.mem_append.1 hym with hm1 | hm2
      · have hb1 : y.blk ∈ l1.map (·.blk) := List.mem_map.2 ⟨y, hm1, rfl⟩
        rw [prv_cut_left (x := x) hb1]
        have hnh : l2.head?.map (·.blk) ≠ some y.blk := fun e => by
          obtain ⟨z, h1, h2, _⟩ := hhead2 _ e
          exact hbl.2.2 _ hb1 _ (List.mem_cons_of_mem _ (List.mem_map.2 ⟨z, h1, h2⟩)) rfl
        by_cases hla : l1.getLast?.map (·.blk) = some y.blk
        · obtain ⟨z, h1, h2, h3⟩ := hlast1 _ hla
          have : z = y := nodup_inj H.ok.blks (hin z (by simp [h1])).1 hyN h2
          subst this
          obtain ⟨l', rfl⟩ := getLast_split h3
          have hz' : z.blk ∉ l'.map (·.blk) := by
            have := hbl.1
            rw [List.map_append, List.nodup_append] at this
            exact fun e => this.2.2 _ e _ (by simp) rfl
          rw [nxt_cut_last hz']
          exact hy z h3
        · obtain ⟨l', q, rfl⟩ : ∃ l' q, l1 = l' ++ [q] := by
            rcases List.eq_nil_or_concat l1 with e | ⟨l', q, e⟩
            · rw [e] at hm1; cases hm1
            · exact ⟨l', q, by rw [e, List.concat_eq_append]⟩
          have hb' : y.blk ∈ l'.map (·.blk) := by
            rw [List.map_append, List.mem_append] at hb1
            rcases hb1 with e | e
            · exact e
            · simp at e
              exact absurd (by simp [e]) hla
          rw [nxt_cut_far (x := x) (y := q) hb']
          exact (hkp hla hnh).trans hy1
      · have hm2 : y ∈ l2 := by
          rcases List.mem_cons.1 hm2 with e | e
          · subst e; exact absurd rfl hyx
          · exact e
        have hb2 : y.blk ∈ l2.map (·.blk) := List.mem_map.2 ⟨y, hm2, rfl⟩
        have hn1 : y.blk ∉ l1.map (·.blk) := fun e => hbl.2.2 _ e _ (List.mem_cons_of_mem _ hb2) rfl
        rw [nxt_cut_right (x := x) hn1 (fun e => hyx e.symm)]
        have hnl : l1.getLast?.map (·.blk) ≠ some y.blk := fun e => by
          obtain ⟨z, h1, h2, _⟩ := hlast1 _ e
          exact hn1 (List.mem_map.2 ⟨z, h1, h2⟩)
        by_cases hhd : l2.head?.map (·.blk) = some y.blk
        · obtain ⟨z, h1, h2, h3⟩ := hhead2 _ hhd
          have : z = y := nodup_inj H.ok.blks (hin z (by simp [h1])).1 hyN h2
          subst this
          obtain ⟨l', rfl⟩ : ∃ l', l2 = z :: l' := by
            cases l2 with
            | nil => cases h3
            | cons a l' => simp at h3; subst h3; exact ⟨l', rfl⟩
          rw [prv_cut_head hn1]
          exact hz z h3
        · obtain ⟨q, l', rfl⟩ : ∃ q l', l2 = q :: l' := by
            cases l2 with
            | nil => cases hm2
            | cons a l' => exact ⟨a, l', rfl⟩
          rw [prv_cut_far (x := x) hn1 (fun e => hyx e.symm) (fun e => hhd (by simp [e]))]
          exact (hkp hnl hhd).trans hy1
    · rw [hoth _ hk]
      refine (hkp ?_ ?_).trans hy1
      · intro e
        obtain ⟨z, h1, h2, _⟩ := hlast1 _ e
        obtain ⟨h3, h4⟩ := hin z (by simp [h1])
        have : z = y := nodup_inj H.ok.blks h3 hyN h2
        subst this
        exact hk h4
      · intro e
        obtain ⟨z, h1, h2, _⟩ := hhead2 _ e
        obtain ⟨h3, h4⟩ := hin z (by simp [h1])
        have : z = y := nodup_inj H.ok.blks h3 hyN h2
        subst this
        exact hk h4
  · intro y hy'
    obtain ⟨hyN, hyx⟩ := mem_less.1 hy'
    have hy1 := H.mem.row y hyN
    have t := H.ok.t5 y hyN
    by_cases hk : y.rc.key = x.rc.key
    · rw [hk, hrow, (H.ok.same y hyN x hx).2 hk]
      refine hr fun e => ?_
      have hym : y ∈ l1 ++ x :: l2 := by rw [← hl]; exact mem_inRow hyN hk
      rw [List.append_eq_nil_iff] at e
      rw [e.1, e.2] at hym
      simp at hym
      subst hym
      exact hyx rfl
    · rw [hoth _ hk]
      refine (hkeep _ hy1.lt ?_).trans hy1
      rintro (e | e | e | e | e | e)
      · rw [e, H.ok.t0] at t; cases t
      · rw [e, H.ok.t1] at t; cases t
      · rw [H.ok.t2 _ e] at t; cases t
      · exact hk ((H.ok.same y hyN x hx).1 e)
      · obtain ⟨z, h1, h2, _⟩ := hlast1 _ e
        rw [← h2, H.ok.t4 z (hin z (by simp [h1])).1] at t; cases t
      · obtain ⟨z, h1, h2, _⟩ := hhead2 _ e
        rw [← h2, H.ok.t4 z (hin z (by simp [h1])).1] at t; cases t
  · refine ⟨?_, H.ok.blks.sublist ((less_sub _ _).map _), H.ok.ms.sublist ((less_sub _ _).map _), ?_, H.ok.ser.sublist (less_sub _ _), ?_, ?_, H.ok.gens, H.ok.t0, H.ok.t1, H.ok.t2, H.ok.t3, ?_, ?_, H.ok.few, H.ok.fewp, H.ok.fewm⟩
    · exact fun a ha b hb => H.ok.same a (mem_less.1 ha).1 b (mem_less.1 hb).1
    · exact fun a ha => H.ok.slot a (mem_less.1 ha).1
    · exact fun a ha => H.ok.upto a (mem_less.1 ha).1
    · exact fun a ha => H.ok.ok a (mem_less.1 ha).1
    · exact fun a ha => H.ok.t4 a (mem_less.1 ha).1
    · exact fun a ha => H.ok.t5 a (mem_less.1 ha).1
  · refine ⟨hB.os, hB.tape, hB.output, hB.size, fun k hk hn => hB.block k hk (fun e => hn ?_)⟩
    rcases e with e | e | e | e | e | e
    · exact .inl e
    · exact .inr (.inl e)
    · exact .inr (.inr (.inl e))
    · exact .inr (.inr (.inr (.inr ⟨x, hx, .inr e⟩)))
    · obtain ⟨z, h1, h2, _⟩ := hlast1 _ e
      exact .inr (.inr (.inr (.inr ⟨z, (hin z (by simp [h1])).1, .inl h2.symm⟩)))
    · obtain ⟨z, h1, h2, _⟩ := hhead2 _ e
      exact .inr (.inr (.inr (.inr ⟨z, (hin z (by simp [h1])).1, .inl h2.symm⟩)))
  · intro b hb
    rcases hb with hb | hb | hb | hb | ⟨y, hy, hb⟩
    · exact .inl (.inl hb)
    · exact .inl (.inr (.inl hb))
    · exact .inl (.inr (.inr (.inl hb)))
    · exact .inl (.inr (.inr (.inr (.inl hb))))
    · exact .inl (.inr (.inr (.inr (.inr ⟨y, (mem_less.1 hy).1, hb⟩))))
end Go.Proofs.Ytkdiibgjkipdnaa
