/-
  Goroutines by name: a map of owned slices.
-/
import Derived.Test.YtfiimmbpfdpjfaaTalD
import Derived.Maps.AppendAt
import Derived.Maps.OwnOps
import Derived.Maps.Views
namespace Go.Proofs.Ytfiimmbpfdpjfaa
open Go.RowKit Go.Maps
set_option linter.unusedSimpArgs false

/-- an element of the map is known as it is -/
def heldV (v : Value) : Option (DataW Value × List MemPlace) := some (.held v, [])
abbrev nilS : Value := .slice none 0 0
abbrev strL (s : ByteArray) : Lit := .string s.data.toList
theorem strL_inj {s t : ByteArray} (h : strL s = strL t) : s = t := by
  have h1 : s.data.toList = t.data.toList := Lit.string.inj h
  cases s; cases t
  simp only [ByteArray.mk.injEq] at *
  exact Array.toList_inj.1 h1 ▸ rfl
/-- block b holds a map from names to slices; h: a name's slice; L: what it holds -/
structure Grp (K : TypeId) (w : World) (b n : Nat) (D : DataW Value) (h : ByteArray → Value) (L : ByteArray → List St) : Prop where
  own : w.ownsMap Try.prog K heldV b n D
  tidy : Tidy D
  at_ : ∀ s, D.atKey (strL s) (.held nilS) = .held (h s)
  has : ∀ s, Maps.has D (strL s) = !(L s).isEmpty
  row : ∀ s, w.ownsRow (b + 1) 38 7 (h s) (L s).length (sts (L s))
  sep : ∀ s t g, s ≠ t → (h s).ownBlock = some g → (h t).ownBlock ≠ some g
theorem Grp.made (K : TypeId) (w : World) : Grp K (w.alloc (.map #[] 0)) w.heap.size 0 (.map []) (fun _ => nilS) fun _ => [] :=
  ⟨World.ownsMap_made w Try.prog K heldV, tidy_empty, fun _ => rfl, fun _ => rfl, fun _ => World.ownsRow_nil _ _ _ _, fun s t g _ h => by cases h⟩
theorem Grp.kept {K : TypeId} {w w' : World} {b n : Nat} {D : DataW Value} {h : ByteArray → Value} {L : ByteArray → List St} (hg : Grp K w b n D h L) (hk : Below w.heap.size w w') : Grp K w' b n D h L :=
  have hb : w.grownBy w' none := ⟨hk.os, hk.tape, hk.output, hk.size, fun k h1 _ => hk.block k h1⟩
  ⟨hg.own.kept hb (by simp), hg.tidy, hg.at_, hg.has, fun s => (hg.row s).kept hb (by cases hv : (h s).ownBlock <;> simp), hg.sep⟩
/-- what the map holds at a name -/
theorem Grp.find {K e t : TypeId} {w : World} {b n : Nat} {D : DataW Value} {h : ByteArray → Value} {L : ByteArray → List St} (hg : Grp K w b n D h L) (hK : Try.prog.underlying K = some .string) (ht : Try.prog.underlying t = some (.map K e)) (hz : (zeroValue e).run Try.prog w = .ok nilS w) {s : ByteArray} (hs : keyOf Try.prog K (.string s) = some (strL s)) :
    (Instr.lookup t (.map (some b)) (.string s) false).run Try.prog w = .ok (h s) w := by
  obtain ⟨v, ps, hr, hv⟩ := hg.own.lookup (string_keyed hK) ht hz (zd := .held nilS) (zp := []) rfl hs
  have hv' : DataW.held v = D.atKey (strL s) (.held nilS) := by
    unfold heldV at hv
    exact (Prod.mk.inj (Option.some.inj hv)).1
  rw [hg.at_ s] at hv'
  rw [hr, DataW.held.inj hv']
/-- one more at a name -/
theorem Grp.step {K e t : TypeId} {w w1 : World} {b n : Nat} {D : DataW Value} {h : ByteArray → Value} {L : ByteArray → List St} (hg : Grp K w b n D h L) (hK : Try.prog.underlying K = some .string) (ht : Try.prog.underlying t = some (.map K e)) (hn : n < maxLen) {s : ByteArray} (hs : keyOf Try.prog K (.string s) = some (strL s)) (x : St) {v' : Value}
    (hgr : w.grownBy w1 (h s).ownBlock) (hown : w1.ownsRow (b + 1) 38 7 v' ((L s).length + 1) (sts (L s ++ [x]))) (hloc : v'.ownBlock = (h s).ownBlock ∨ ∃ g, v'.ownBlock = some g ∧ w.heap.size ≤ g) :
    ∃ w2, (Instr.mapUpdate t (.map (some b)) (.string s) v').run Try.prog w1 = .ok () w2 ∧ w1.grownBy w2 (some b) ∧
      Grp K w2 b (n + 1) (D.put (strL s) (.held v')) (fun y => if y = s then v' else h y) fun y => if y = s then L s ++ [x] else L y := by
  have hbr : ∀ y g, (h y).ownBlock = some g → b + 1 ≤ g ∧ g < w.heap.size := fun y g hy => (hg.row y).lt g hy
  have hb1 : some b ≠ (h s).ownBlock := fun e => by have := hbr s b e.symm; omega
  have own1 := hg.own.kept hgr hb1
  obtain ⟨w2, hr, own2, hg2⟩ := own1.update (string_keyed hK) ht hn (d := .held v') (ps := []) hs rfl
  have hkl : WideAt.IsKeyLit (strL s) := (string_keyed hK).key hs
  refine ⟨w2, hr, hg2, own2, hg.tidy.put hkl _, fun y => ?_, fun y => ?_, fun y => ?_, fun y z g hyz hy hz => ?_⟩
  · by_cases e : y = s
    · subst e; rw [if_pos rfl]; exact atKey_put_same hg.tidy.isMap hkl _ _
    · rw [if_neg e, atKey_put_other (fun e2 => e (strL_inj e2))]; exact hg.at_ y
  · by_cases e : y = s
    · subst e; rw [if_pos rfl, has_put_same hg.tidy.isMap hkl]; simp
    · rw [if_neg e, has_put_other (fun e2 => e (strL_inj e2))]; exact hg.has y
  · by_cases e : y = s
    · subst e
      rw [if_pos rfl, if_pos rfl, List.length_append]
      refine hown.kept hg2 ?_
      cases hv : v'.ownBlock with
      | none => exact .inl rfl
      | some g => right; intro e; have := (hown.lt g hv).1; cases e; omega
    · rw [if_neg e, if_neg e]
      refine ((hg.row y).kept hgr ?_).kept hg2 ?_
      · cases hv : (h y).ownBlock with
        | none => exact .inl rfl
        | some g => right; intro e2; exact hg.sep y s g e hv e2.symm
      · cases hv : (h y).ownBlock with
        | none => exact .inl rfl
        | some g => right; intro e2; have := (hbr y g hv).1; cases e2; omega
  · have far : ∀ y, y ≠ s → (h y).ownBlock = some g → v'.ownBlock ≠ some g := fun y hys hyg hv => by
      rcases hloc with e | ⟨g', e1, e2⟩
      · rw [e] at hv
        exact hg.sep y s g hys hyg hv
      · rw [e1] at hv
        cases hv
        have := (hbr y g hyg).2
        omega
    by_cases e : y = s
    · rw [if_pos e] at hy
      have ez : z ≠ s := fun e2 => hyz (e.trans e2.symm)
      rw [if_neg ez] at hz
      exact far z ez hz hy
    · rw [if_neg e] at hy
      by_cases ez : z = s
      · rw [if_pos ez] at hz
        exact far y e hy hz
      · rw [if_neg ez] at hz
        exact hg.sep y z g hyz hy hz
end Go.Proofs.Ytfiimmbpfdpjfaa
