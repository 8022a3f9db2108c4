/-
  Neighbours in a row, as rows grow and shrink.
-/
import Derived.Test.YtkdiibgjkipdnaaWqJ
namespace Go.Proofs.Ytkdiibgjkipdnaa
open Go.RowKit Go.Maps
set_option linter.unusedSimpArgs false

theorem prvA_left {b : Nat} {m : List Nd} : ∀ {l : List Nd} {a : Option Nat}, b ∈ l.map (·.blk) → prvA a (l ++ m) b = prvA a l b
  | [], _, h => by simp at h
  | y :: l, a, h => by
    simp only [List.cons_append, prvA]
    by_cases e : y.blk = b
    · rw [if_pos e, if_pos e]
    · rw [if_neg e, if_neg e]
      refine prvA_left ?_
      rcases List.mem_cons.1 h with e2 | e2
      · exact absurd e2.symm e
      · exact e2
theorem prvA_right {b : Nat} {m : List Nd} : ∀ {l : List Nd} {a : Option Nat}, b ∉ l.map (·.blk) → prvA a (l ++ m) b = prvA ((l.getLast?.map (·.blk)).or a) m b
  | [], _, _ => rfl
  | [y], a, h => by
    have e : y.blk ≠ b := fun e => h (by simp [e])
    simp only [List.cons_append, prvA, if_neg e, List.nil_append]
    rfl
  | y :: z :: l, a, h => by
    have e : y.blk ≠ b := fun e => h (by simp [e])
    rw [List.cons_append, prvA, if_neg e, prvA_right (l := z :: l) (fun h2 => h (List.mem_cons_of_mem _ h2))]
    rw [List.getLast?_cons_cons]
    cases hz : (z :: l).getLast? with
    | none => simp at hz
    | some q => rfl
theorem nxt_right {b : Nat} {m : List Nd} : ∀ {l : List Nd}, b ∉ l.map (·.blk) → nxt (l ++ m) b = nxt m b
  | [], _ => rfl
  | y :: l, h => by
    have e : y.blk ≠ b := fun e => h (by simp [e])
    rw [List.cons_append, nxt, if_neg e, nxt_right (l := l) (fun h2 => h (List.mem_cons_of_mem _ h2))]
theorem nxt_left {b : Nat} {y : Nd} {m m' : List Nd} : ∀ {l : List Nd}, b ∈ l.map (·.blk) → nxt (l ++ y :: m) b = nxt (l ++ y :: m') b
  | [], h => by simp at h
  | z :: l, h => by
    rw [List.cons_append, List.cons_append, nxt, nxt]
    by_cases e : z.blk = b
    · rw [if_pos e, if_pos e]
      cases l <;> rfl
    · rw [if_neg e, if_neg e]
      refine nxt_left ?_
      rcases List.mem_cons.1 h with e2 | e2
      · exact absurd e2.symm e
      · exact e2
theorem nxt_at_mid {y : Nd} {l m : List Nd} (h : y.blk ∉ l.map (·.blk)) : nxt (l ++ y :: m) y.blk = m.head?.map (·.blk) := by
  rw [nxt_right h, nxt, if_pos rfl]
theorem prv_at_mid {y : Nd} {l m : List Nd} (h : y.blk ∉ l.map (·.blk)) : prv (l ++ y :: m) y.blk = l.getLast?.map (·.blk) := by
  unfold prv
  rw [prvA_right h, prvA, if_pos rfl]
  cases l.getLast?.map (·.blk) <;> rfl
theorem inRow_append (k : Key) (N M : List Nd) : inRow k (N ++ M) = inRow k N ++ inRow k M := by simp [inRow]
theorem inRow_one_same (x : Nd) : inRow x.rc.key [x] = [x] := by simp [inRow]
theorem inRow_one_other {k : Key} {x : Nd} (h : x.rc.key ≠ k) : inRow k [x] = [] := by simp [inRow, h]
theorem mem_inRow {k : Key} {N : List Nd} {x : Nd} (h : x ∈ N) (hk : x.rc.key = k) : x ∈ inRow k N := by
  unfold inRow; rw [List.mem_filter]; exact ⟨h, decide_eq_true hk⟩
/-! ### append -/
theorem prv_append_old {l : List Nd} {x : Nd} {b : Nat} (hb : b ∈ l.map (·.blk)) : prv (l ++ [x]) b = prv l b := prvA_left hb
theorem prv_append_new {l : List Nd} {x : Nd} (hx : x.blk ∉ l.map (·.blk)) : prv (l ++ [x]) x.blk = l.getLast?.map (·.blk) := prv_at_mid hx
theorem nxt_append_new {l : List Nd} {x : Nd} (hx : x.blk ∉ l.map (·.blk)) : nxt (l ++ [x]) x.blk = none := nxt_at_mid hx
theorem getLast_split {l : List Nd} {y : Nd} (h : l.getLast? = some y) : ∃ l', l = l' ++ [y] := by
  rcases List.eq_nil_or_concat l with e | ⟨l', z, e⟩
  · subst e; simp at h
  · subst e
    rw [List.concat_eq_append, List.getLast?_append] at h
    simp at h
    subst h
    exact ⟨l', by simp⟩
theorem nxt_append_last {l : List Nd} {x y : Nd} (h : l.getLast? = some y) (hn : (l.map (·.blk)).Nodup) : nxt (l ++ [x]) y.blk = some x.blk := by
  obtain ⟨l', rfl⟩ := getLast_split h
  rw [List.map_append, List.nodup_append] at hn
  have hy : y.blk ∉ l'.map (·.blk) := fun e => (hn.2.2 _ e _ (by simp)) rfl
  rw [List.append_assoc]
  exact nxt_at_mid hy
theorem nxt_append_old {l : List Nd} {x : Nd} {b : Nat} (hb : b ∈ l.map (·.blk)) (hl : l.getLast?.map (·.blk) ≠ some b) : nxt (l ++ [x]) b = nxt l b := by
  cases h : l.getLast? with
  | none => rw [List.getLast?_eq_none_iff] at h; subst h; simp at hb
  | some y =>
    obtain ⟨l', rfl⟩ := getLast_split h
    rw [h] at hl
    have hne : y.blk ≠ b := fun e => hl (by rw [Option.map_some, e])
    have hb' : b ∈ l'.map (·.blk) := by
      rw [List.map_append, List.mem_append] at hb
      rcases hb with e | e
      · exact e
      · simp at e; exact absurd e.symm hne
    rw [List.append_assoc]
    exact nxt_left hb'
/-! ### one out of the middle -/
theorem prv_cut_left {l m : List Nd} {x : Nd} {b : Nat} (hb : b ∈ l.map (·.blk)) : prv (l ++ m) b = prv (l ++ x :: m) b := by
  unfold prv; rw [prvA_left hb, prvA_left hb]
theorem nxt_cut_right {l m : List Nd} {x : Nd} {b : Nat} (hb : b ∉ l.map (·.blk)) (hx : x.blk ≠ b) : nxt (l ++ m) b = nxt (l ++ x :: m) b := by
  rw [nxt_right hb, nxt_right hb, nxt, if_neg hx]
/-- the first behind it -/
theorem prv_cut_head {l m : List Nd} {z : Nd} (hz : z.blk ∉ l.map (·.blk)) : prv (l ++ z :: m) z.blk = l.getLast?.map (·.blk) := prv_at_mid hz
theorem prv_cut_far {l m : List Nd} {x z : Nd} {b : Nat} (hb : b ∉ l.map (·.blk)) (hx : x.blk ≠ b) (hz : z.blk ≠ b) : prv (l ++ z :: m) b = prv (l ++ x :: z :: m) b := by
  unfold prv
  rw [prvA_right hb, prvA_right hb, prvA, prvA, prvA, if_neg hx, if_neg hz, if_neg hz]
/-- the last ahead of it -/
theorem nxt_cut_last {l m : List Nd} {y : Nd} (hy : y.blk ∉ l.map (·.blk)) : nxt (l ++ [y] ++ m) y.blk = m.head?.map (·.blk) := by
  rw [List.append_assoc]; exact nxt_at_mid hy
theorem nxt_cut_far {l m : List Nd} {x y : Nd} {b : Nat} (hb : b ∈ l.map (·.blk)) : nxt (l ++ [y] ++ m) b = nxt (l ++ [y] ++ x :: m) b := by
  rw [List.append_assoc, List.append_assoc]; exact nxt_left hb
end Go.Proofs.Ytkdiibgjkipdnaa
