/-
  A slice that the call owns, of which the head may have been cut off: what append and [1:] do to it.
-/
import Derived.Test.YtkdiibgjkipdnaaLkU
namespace Go.Proofs.Ytkdiibgjkipdnaa
open Go.RowKit Go.Maps
set_option linter.unusedSimpArgs false
set_option linter.unusedVariables false

def Tail (w : World) (base e size : Nat) (v : Value) (n : Nat) (xs : List Value) : Prop :=
  xs.length = n * size ∧ (v = .slice none 0 0 ∧ n = 0 ∨ ∃ g o cap cur, v = .slice (some ⟨g, o * size, none⟩) n cap ∧ base ≤ g ∧ w.heap[g]? = some (.cells cur e (0, 0)) ∧ n ≤ cap ∧ cap ≤ maxLen ∧ (o + cap) * size ≤ cur.size ∧ (cur.toList.drop (o * size)).take (n * size) = xs)
section
variable {w w' : World} {base e size n : Nat} {v : Value} {xs : List Value}
theorem Tail.nil (w : World) (base e size : Nat) : Tail w base e size (.slice none 0 0) 0 [] := ⟨by simp, .inl ⟨rfl, rfl⟩⟩
theorem Tail.of_own (h : w.ownsRow base e size v n xs) : Tail w base e size v n xs := by
  refine ⟨h.1, ?_⟩
  rcases h.2 with q | ⟨g, cap, cur, e1, e2, e3, e4, e5, e6, e7⟩
  · exact .inl q
  · exact .inr ⟨g, 0, cap, cur, by rw [e1, Nat.zero_mul], e2, e3, e4, e5, by rw [Nat.zero_add, e6]; exact Nat.le_refl _, by rw [Nat.zero_mul, List.drop_zero]; exact e7⟩
theorem Tail.move (h : Tail w base e size v n xs) (hb : ∀ g, v.ownBlock = some g → w'.heap[g]? = w.heap[g]?) : Tail w' base e size v n xs := by
  refine ⟨h.1, ?_⟩
  rcases h.2 with q | ⟨g, o, cap, cur, e1, e2, e3, e4⟩
  · exact .inl q
  · exact .inr ⟨g, o, cap, cur, e1, e2, (hb g (by rw [e1]; rfl)).trans e3, e4⟩
theorem Tail.lt (h : Tail w base e size v n xs) : ∀ k, v.ownBlock = some k → base ≤ k ∧ k < w.heap.size := by
  intro k hk
  rcases h.2 with ⟨e1, _⟩ | ⟨g, o, cap, cur, e1, e2, e3, e4⟩
  · rw [e1] at hk; cases hk
  · rw [e1] at hk
    have : g = k := by simpa [Value.ownBlock] using hk
    subst this
    exact ⟨e2, (Array.getElem?_eq_some_iff.1 e3).1⟩
theorem Tail.row (h : Tail w base e size v n xs) {q : Nat} (hq : v.ownBlock = some q) : ∃ cs, Row w q e cs := by
  rcases h.2 with ⟨e1, _⟩ | ⟨g, o, cap, cur, e1, _, e3, _⟩
  · rw [e1] at hq; cases hq
  · rw [e1] at hq
    have : g = q := by simpa [Value.ownBlock] using hq
    subst this
    exact ⟨cur.toList, by unfold Row; rw [e3]⟩
theorem Tail.cells {g off c : Nat} (h : Tail w base e size (.slice (some ⟨g, off, none⟩) n c) n xs) : ∀ j u, xs[j]? = some u → w.cell? ⟨g, off + j, none⟩ = some u ∧ w.frozen? ⟨g, off + j, none⟩ = false := by
  intro j u hj
  rcases h.2 with ⟨e1, _⟩ | ⟨g', o, cap, cur, e1, _, e3, _, _, _, e7⟩
  · cases e1
  · injection e1 with e1 _ _
    injection e1 with e1
    injection e1 with e1 e2 _
    subst e1 e2
    rw [← e7, List.getElem?_take] at hj
    split at hj
    · rw [List.getElem?_drop] at hj
      refine ⟨?_, ?_⟩
      · simp [World.cell?, e3]
        simpa using hj
      · simp [World.frozen?, e3]
    · cases hj
theorem Tail.form (h : Tail w base e size v n xs) : ∃ A c, v = .slice A n c ∧ ∀ j u, xs[j]? = some u → ∃ g off, A = some ⟨g, off, none⟩ ∧ w.cell? ⟨g, off + j, none⟩ = some u := by
  rcases h.2 with ⟨e1, e2⟩ | ⟨g, o, cap, cur, e1, e2, e3, e4⟩
  · refine ⟨none, 0, by rw [e1, e2], fun j u hj => ?_⟩
    have h1 := h.1
    have := (List.getElem?_eq_some_iff.1 hj).1
    rw [h1, e2] at this
    omega
  · subst e1
    exact ⟨_, cap, rfl, fun j u hj => ⟨g, _, rfl, (h.cells j u hj).1⟩⟩
/-- v[1:] -/
theorem Tail.rest {P : Program} {t : TypeId} {i : TypeInfo} (ht : P.underlying t = some (.slice e)) (hi : P.info? e = some i) (hsz : i.size = size) {m : Nat} (h : Tail w base e size v (m + 1) xs) :
    ∃ v', (∀ w, (Instr.slice t v (some (.int .i64 1)) none none).run P w = .ok v' w) ∧ Tail w base e size v' m (xs.drop size) ∧ v'.ownBlock = v.ownBlock := by
  subst hsz
  rcases h.2 with ⟨_, e2⟩ | ⟨g, o, cap, cur, e1, e2, e3, e4, e5, e6, e7⟩
  · cases e2
  · subst e1
    have hl : (xs.drop i.size).length = m * i.size := by rw [List.length_drop, h.1, Nat.add_mul, Nat.one_mul]; omega
    by_cases hc : cap = 1
    · subst hc
      have hm : m = 0 := by omega
      subst hm
      refine ⟨.slice (some ⟨g, o * i.size, none⟩) 0 0, fun w => ?_, ⟨hl, .inr ⟨g, o, 0, cur, rfl, e2, e3, Nat.le_refl _, by omega, by rw [Nat.add_mul] at e6; rw [Nat.add_mul]; omega, ?_⟩⟩, rfl⟩
      · simp [Instr.slice, run_underlying ht, Instr.sliceBounds, Instr.sliceBound, asIntOf, sizeOf, typeInfo, hi]
      · have : (xs.drop i.size) = [] := List.eq_nil_of_length_eq_zero (by rw [hl]; simp)
        rw [this]; simp
    · refine ⟨.slice (some ⟨g, (o + 1) * i.size, none⟩) m (cap - 1), fun w => ?_, ⟨hl, .inr ⟨g, o + 1, cap - 1, cur, rfl, e2, e3, by omega, by omega, ?_, ?_⟩⟩, rfl⟩
      · have hm1 : (0 : Int) ≤ 1 ∧ (1 : Int) ≤ ((m + 1 : Nat) : Int) := by omega
        simp [Instr.slice, run_underlying ht, Instr.sliceBounds, Instr.sliceBound, asIntOf, sizeOf, typeInfo, hi, hc, Addr.add, Nat.add_mul]
        have : ((1 : Int) ≤ (m : Int) + 1) := by omega
        simp [this]
      · rw [show o + 1 + (cap - 1) = o + cap by omega]; exact e6
      · rw [← e7, Nat.add_mul o 1, Nat.one_mul, ← List.drop_drop]
        rw [List.drop_take, Nat.add_mul m 1, Nat.one_mul, Nat.add_sub_cancel]
theorem run_append_tail {P : Program} {t ty : TypeId} {i : TypeInfo} {z : Value} {bytes : Nat} (ht : P.underlying t = some (.slice e)) (hi : P.info? e = some i) (hz : i.zero = some z)
    (hsize : i.size = size) (hby : i.bytes = bytes) (hzs : z.cells.size = size) (hsz : 0 < size) (hown : Tail w base e size v n xs)
    {a : Addr} {m c : Nat} {news : List Value} (hl : news.length = m * size) (hnews : ∀ j u, news[j]? = some u → w.cell? (a.add j) = some u) (h1 : ∀ u ∈ news, u.oneCell' = true) (hm : 0 < m)
    (h63 : n + m ≤ maxLen) (hbytes : (n + m) * bytes ≤ 140737488355328) (hbase : base ≤ w.heap.size) :
    ∃ v' w', (Builtin.append_ #[t, t] ty #[v, .slice (some a) m c]).run P w = .ok v' w' ∧ Tail w' base e size v' (n + m) (xs ++ news) ∧ w.grownBy w' v.ownBlock ∧ (v'.ownBlock = v.ownBlock ∨ v'.ownBlock = some w.heap.size) := by
  subst hsize
  subst hby
  have hsmall : n + m ≤ 9223372036854775807 := by simp only [maxLen] at h63; omega
  have hlen : (xs ++ news).length = (n + m) * i.size := by rw [List.length_append, hown.1, hl, Nat.add_mul]
  rcases hown.2 with ⟨rfl, rfl⟩ | ⟨g, o, cap, cur, rfl, hbg, hg, hnc, hcm, hcs, htake⟩
  · have hx : xs = [] := List.eq_nil_of_length_eq_zero (by simpa using hown.1)
    subst hx
    obtain ⟨v', w', hr, ho, hgr, _, hat⟩ := run_append_own_at (P := P) w base t ty e i z i.size i.bytes ht hi hz rfl rfl hzs hsz (.slice none 0 0) 0 [] (World.ownsRow_nil w base e i.size) a m c news hl hnews h1 h63 hbytes hbase
    exact ⟨v', w', hr, Tail.of_own ho, hgr, hat⟩
  · by_cases hroom : n + m ≤ cap
    · have hfit : o * i.size + n * i.size + news.length ≤ cur.size := by
        rw [hl, Nat.add_assoc, ← Nat.add_mul]
        rw [Nat.add_mul] at hcs
        have := Nat.mul_le_mul_right i.size hroom
        omega
      have hf := run_firstCells_some (P := P) w i.size m a m c news hl hnews
      have hst := run_storeCells_at P g (o * i.size + n * i.size) e news 0 cur w hg (by simpa using hfit) h1
      simp only [Nat.add_zero] at hst
      refine ⟨.slice (some ⟨g, o * i.size, none⟩) (n + m) cap, w.setRow g (cur.toList.take (o * i.size + n * i.size) ++ news ++ cur.toList.drop (o * i.size + n * i.size + news.length)).toArray, ?_, ⟨hlen, .inr ⟨g, o, cap, _, rfl, hbg, setRow_heap w g cur _ e _ hg, hroom, hcm, ?_, ?_⟩⟩, ⟨rfl, rfl, rfl, by simp, fun k _ hk => setRow_other w g k _ (fun e => hk (by simp [Value.ownBlock, e]))⟩, .inl rfl⟩
      · simp [Builtin.append_, run_underlying ht, sizeOf, typeInfo, hi, Builtin.lenOf, hroom, hf, Addr.add_lit, hst]
      · simp only [List.size_toArray, List.length_append, List.length_take, List.length_drop, Array.length_toList]
        omega
      · have hcl : o * i.size + n * i.size ≤ cur.toList.length := by simp only [Array.length_toList]; omega
        rw [List.append_assoc, List.drop_append_of_le_length (by rw [List.length_take]; omega), List.drop_take, Nat.add_sub_cancel_left, htake, ← List.append_assoc, ← hlen]
        exact List.take_left
    · have holds : ∀ j u, xs[j]? = some u → w.cell? ((⟨g, o * i.size, none⟩ : Addr).add j) = some u := fun j u hj => by
        rw [Addr.add_lit]; exact (hown.cells j u hj).1
      have hr := run_append_grow (P := P) w t ty e i z ht hi hz ⟨g, o * i.size, none⟩ n cap xs hown.1 holds a m c news hl hnews (by omega) (by omega) (growslice_fits (by omega) hbytes)
      have hge := grownCap_ge w (n + m) cap e
      have hcm2 : grownCap w (n + m) cap e ≤ maxLen := grownCap_le_maxLen w (n + m) cap e h63
      refine ⟨_, _, hr, Tail.of_own ⟨hlen, .inr ⟨w.heap.size, _, _, rfl, hbase, heap_alloc_new w.drew _, hge, hcm2, ?_, ?_⟩⟩, ⟨rfl, rfl, rfl, by simp, fun k hk _ => heap_alloc_old w.drew _ hk⟩, .inr rfl⟩
      · simp only [Array.size_append, List.size_toArray, size_zeroCells, hzs, hown.1, hl, ← Nat.add_mul]
        congr 1
        omega
      · simp only [Array.toList_append, List.append_assoc]
        rw [← List.append_assoc, ← hlen]
        exact List.take_left
end
theorem wpList_append_tail {P : Program} {w : World} {ops : Array Oper} {rest : List Oper} {o : Oper} {a : Act} {Q : Exit → Act → World → Prop} (hgd : o.guard = none) (s x : Operand) (t : TypeId)
    (ho : o.op = .call { callee := .builtin .append, args := #[s, x], argTypes := #[t, t] })
    (base : Nat) (e : TypeId) (i : TypeInfo) (z : Value) (size bytes : Nat) (ht : P.underlying t = some (.slice e)) (hi : P.info? e = some i) (hz : i.zero = some z)
    (hsize : i.size = size) (hby : i.bytes = bytes) (hzs : z.cells.size = size) (hsz : 0 < size)
    (v : Value) (n : Nat) (xs : List Value) (hs : a.eval s = v) (hown : Tail w base e size v n xs)
    (ad : Addr) (m c : Nat) (news : List Value) (hx : a.eval x = .slice (some ad) m c) (hl : news.length = m * size) (hnews : ∀ j u, news[j]? = some u → w.cell? (ad.add j) = some u) (h1 : ∀ u ∈ news, u.oneCell' = true) (hm : 0 < m)
    (h63 : n + m ≤ maxLen) (hbytes : (n + m) * bytes ≤ 140737488355328) (hbase : base ≤ w.heap.size)
    (h : ∀ v' w', Tail w' base e size v' (n + m) (xs ++ news) → w.grownBy w' v.ownBlock → (v'.ownBlock = v.ownBlock ∨ v'.ownBlock = some w.heap.size) → wpList P ops Q rest (a.put o.dst v') w') :
    wpList P ops Q (o :: rest) a w := by
  refine wpList_plain hgd fun K hK => ?_
  obtain ⟨v', w', hr, h2, h3, h4⟩ := run_append_tail (P := P) (ty := o.type) ht hi hz hsize hby hzs hsz hown (c := c) hl hnews h1 hm h63 hbytes hbase
  unfold Oper.wp execOp
  simp only [ho, resolve, invoke, builtin, Sem.run_bind, Sem.run_pure, Result.andThen_ok, List.map_toArray, List.map_cons, List.map_nil, hs, hx, hr]
  exact hK _ _ (h v' w' h2 h3 h4)
theorem step_append_tail {P : Program} {w : World} {ops : Array Oper} {o : Oper} {a : Act} {K : Act → World → Prop} {Q : Exit → Act → World → Prop} {E : Prop} (hgd : o.guard = none) (s x : Operand) (t : TypeId)
    (ho : o.op = .call { callee := .builtin .append, args := #[s, x], argTypes := #[t, t] })
    (base : Nat) (e : TypeId) (i : TypeInfo) (z : Value) (size bytes : Nat) (ht : P.underlying t = some (.slice e)) (hi : P.info? e = some i) (hz : i.zero = some z)
    (hsize : i.size = size) (hby : i.bytes = bytes) (hzs : z.cells.size = size) (hsz : 0 < size)
    (v : Value) (n : Nat) (xs : List Value) (hs : a.eval s = v) (hown : Tail w base e size v n xs)
    (ad : Addr) (m c : Nat) (news : List Value) (hx : a.eval x = .slice (some ad) m c) (hl : news.length = m * size) (hnews : ∀ j u, news[j]? = some u → w.cell? (ad.add j) = some u) (h1 : ∀ u ∈ news, u.oneCell' = true) (hm : 0 < m)
    (h63 : n + m ≤ maxLen) (hbytes : (n + m) * bytes ≤ 140737488355328) (hbase : base ≤ w.heap.size) (H : Nat) (hH : w.heap.size = H)
    (h : ∀ g off cap w', Tail w' base e size (.slice (some ⟨g, off, none⟩) (n + m) cap) (n + m) (xs ++ news) → w.grownBy w' v.ownBlock → (v.ownBlock = some g ∨ g = H) → K (a.put o.dst (.slice (some ⟨g, off, none⟩) (n + m) cap)) w') :
    if Region.wanted o (yielded ops a.tmps) = true then Oper.wp P o a w K Q else E := by
  have hw : Region.wanted o (yielded ops a.tmps) = true := by simp [Region.wanted, hgd]
  rw [if_pos hw]
  obtain ⟨v', w', hr, h2, h3, h4⟩ := run_append_tail (P := P) (ty := o.type) ht hi hz hsize hby hzs hsz hown (c := c) hl hnews h1 hm h63 hbytes hbase
  unfold Oper.wp execOp
  simp only [ho, resolve, invoke, builtin, Sem.run_bind, Sem.run_pure, Result.andThen_ok, List.map_toArray, List.map_cons, List.map_nil, hs, hx, hr]
  rcases h2.2 with ⟨_, e2⟩ | ⟨g, o2, cap, cur, e1, _⟩
  · omega
  · subst e1
    refine h g _ cap w' h2 h3 (h4.imp (fun e => e.symm) (fun e => ?_))
    have e2 : g = w.heap.size := by simpa [Value.ownBlock] using e
    exact e2.trans hH
end Go.Proofs.Ytkdiibgjkipdnaa
