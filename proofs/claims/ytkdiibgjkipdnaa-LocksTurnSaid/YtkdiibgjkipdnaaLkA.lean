/-
  A map from handles; locks in memory.
-/
import Derived.Test.YtkdiibgjkipdnaaWqW
namespace Go.Proofs.Ytkdiibgjkipdnaa
open Go.RowKit Go.Maps
set_option linter.unusedSimpArgs false

theorem handKeyed : Keyed Try.prog 35 := Keyed.of_law (deep_law_laid laidOut (m := 2) (by omega) (by decide +kernel) (by kernel_rfl) (by kernel_rfl))
def klH (a b : Int) : Lit := .string (keyBytes [.int .u32 a, .int .u32 b])
theorem keyH_of {a b : Int} (ha : (Lit.int .u32 a).wf = true) (hb : (Lit.int .u32 b).wf = true) : keyOf Try.prog 35 (.agg #[.int .u32 a, .int .u32 b]) = some (klH a b) := by
  obtain ⟨m, hm⟩ : ∃ m, Try.prog.types.size = m + 1 := ⟨Try.prog.types.size - 1, by kernel_rfl⟩
  have hf : ((Value.agg #[.int .u32 a, .int .u32 b]).formed Try.prog 35) = true := by kernel_rfl
  have hk : Try.prog.keyType 35 = true := by decide +kernel
  have i1 := lits_handle (m := m) ha hb
  unfold keyOf
  simp only [Try.underlying35, hk, hf, Bool.and_self, if_true, hm]
  simp [i1, Value.cells, klH]
theorem klH_inj {a b c d : Int} (ha : (Lit.int .u32 a).wf = true) (hb : (Lit.int .u32 b).wf = true) (hc : (Lit.int .u32 c).wf = true) (hd : (Lit.int .u32 d).wf = true) (h : klH a b = klH c d) : a = c ∧ b = d := by
  have h1 := keyH_of ha hb
  rw [h] at h1
  have := handKeyed.inj h1 (keyH_of hc hd)
  simpa using this
/-- block b holds a map from handles; f: what it holds of each (z: the zero value) -/
structure HMap (w : World) (z : Value) (b n : Nat) (f : Int → Int → Value) : Prop where
  ex : ∃ D : DataW Value, w.ownsMap Try.prog 35 heldV b n D ∧ Tidy D ∧ ∀ s g, (Lit.int .u32 s).wf = true → (Lit.int .u32 g).wf = true → D.atKey (klH s g) (.held z) = .held (f s g)
theorem HMap.made (w : World) (z : Value) : HMap (w.alloc (.map #[] 0)) z w.heap.size 0 fun _ _ => z :=
  ⟨.map [], World.ownsMap_made w Try.prog 35 heldV, tidy_empty, fun _ _ _ _ => rfl⟩
section
variable {w w' : World} {z : Value} {b n : Nat} {f : Int → Int → Value} {t e : TypeId}
theorem HMap.lt (h : HMap w z b n f) : b < w.heap.size := by
  obtain ⟨D, h1, _⟩ := h.ex
  exact h1.lt
theorem HMap.move (h : HMap w z b n f) (hb : w'.heap[b]? = w.heap[b]?) : HMap w' z b n f := by
  obtain ⟨D, ⟨es, clock, h1, h2⟩, h3⟩ := h.ex
  exact ⟨D, ⟨es, clock, hb.trans h1, h2⟩, h3⟩
theorem HMap.find (h : HMap w z b n f) (ht : Try.prog.underlying t = some (.map 35 e)) (hz : ∀ w, (zeroValue e).run Try.prog w = .ok z w) {s g : Int} (hs : (Lit.int .u32 s).wf = true) (hg : (Lit.int .u32 g).wf = true) :
    (Instr.lookup t (.map (some b)) (.agg #[.int .u32 s, .int .u32 g]) false).run Try.prog w = .ok (f s g) w := by
  obtain ⟨D, h1, h2, h3⟩ := h.ex
  obtain ⟨v, ps, hr, hv⟩ := h1.lookup handKeyed ht (hz w) (zd := .held z) (zp := []) rfl (keyH_of hs hg)
  have hv' : DataW.held v = D.atKey (klH s g) (.held z) := by
    unfold heldV at hv
    exact (Prod.mk.inj (Option.some.inj hv)).1
  rw [h3 s g hs hg] at hv'
  rw [hr, DataW.held.inj hv']
theorem HMap.put (h : HMap w z b n f) (ht : Try.prog.underlying t = some (.map 35 e)) (hn : n < maxLen) {s g : Int} (hs : (Lit.int .u32 s).wf = true) (hg : (Lit.int .u32 g).wf = true) (v : Value) :
    ∃ w2, (Instr.mapUpdate t (.map (some b)) (.agg #[.int .u32 s, .int .u32 g]) v).run Try.prog w = .ok () w2 ∧ w.grownBy w2 (some b) ∧ HMap w2 z b (n + 1) fun s' g' => if s' = s ∧ g' = g then v else f s' g' := by
  obtain ⟨D, h1, h2, h3⟩ := h.ex
  obtain ⟨w2, hr, own2, hg2⟩ := h1.update handKeyed ht hn (d := .held v) (ps := []) (keyH_of hs hg) rfl
  have hkl : WideAt.IsKeyLit (klH s g) := handKeyed.key (keyH_of hs hg)
  refine ⟨w2, hr, hg2, _, own2, h2.put hkl _, fun s' g' hs' hg' => ?_⟩
  by_cases e : s' = s ∧ g' = g
  · obtain ⟨rfl, rfl⟩ := e; rw [if_pos ⟨rfl, rfl⟩]; exact atKey_put_same h2.isMap hkl _ _
  · rw [if_neg e, atKey_put_other (fun e2 => e (klH_inj hs' hg' hs hg e2))]; exact h3 s' g' hs' hg'
end
theorem zeroThing (w : World) : (zeroValue 79).run Try.prog w = .ok .nilIface w := by kernel_rfl
/-- what a map of things holds: a mutex, a wait group, nothing -/
def mutexV (b : Nat) : Value := .iface 80 (.pointer (some ⟨b, 0, none⟩))
def groupV (b : Nat) : Value := .iface 83 (.pointer (some ⟨b, 0, none⟩))
/-- locks in memory: lp their block, mp the map's, bp the book's -/
structure LkAt (w : World) (lp mp bp mn : Nat) (f : Int → Int → Value) (B : Bk) : Prop where
  obj : Row w lp 77 [.pointer (some ⟨bp, 0, none⟩), .map (some mp)]
  map : HMap w .nilIface mp mn f
  book : BookAt w bp B
  n1 : ¬ B.own bp lp
  n2 : ¬ B.own bp mp
/-- a block of a type that no book has is none of its own -/
theorem BookMem.not_own {w : World} {bp b e : Nat} {B : Bk} {vs : List Value} (h : BookMem w bp B) (hr : Row w b e vs) (he : e ≠ 74 ∧ e ≠ 92 ∧ e ≠ 33 ∧ e ≠ 98 ∧ e ≠ 94) : ¬ B.own bp b := by
  obtain ⟨h1, h2, h3, h4, h5⟩ := he
  rintro (rfl | rfl | hb | hb | ⟨x, hx, rfl | rfl⟩)
  · exact (hr.ne h.book h1) rfl
  · obtain ⟨D, ⟨es, clock, k1, _⟩, _⟩ := h.map.ex
    unfold Row at hr
    rw [k1] at hr
    cases hr
  · rcases h.slots.2 with ⟨q, _⟩ | ⟨g, cap, cur, q, _, q3, _⟩
    · rw [q] at hb; cases hb
    · rw [q] at hb
      have : g = b := by simpa [Value.ownBlock] using hb
      subst this
      unfold Row at hr
      rw [q3] at hr
      injection hr with hr
      injection hr with _ ht
      exact h2 ht.symm
  · rcases h.gen.2 with ⟨q, _⟩ | ⟨g, cap, cur, q, _, q3, _⟩
    · rw [q] at hb; cases hb
    · rw [q] at hb
      have : g = b := by simpa [Value.ownBlock] using hb
      subst this
      unfold Row at hr
      rw [q3] at hr
      injection hr with hr
      injection hr with _ ht
      exact h3 ht.symm
  · exact (hr.ne (h.node x hx) h4) rfl
  · exact (hr.ne (h.row x hx) h5) rfl
theorem LkAt.below {w w' : World} {lp mp bp mn : Nat} {f : Int → Int → Value} {B : Bk} (h : LkAt w lp mp bp mn f B) (hb : Below w.heap.size w w') : LkAt w' lp mp bp mn f B :=
  ⟨h.obj.below hb h.obj.lt, h.map.move (hb.block _ h.map.lt), h.book.below hb, h.n1, h.n2⟩
theorem LkAt.to {w w' : World} {lp mp bp mn : Nat} {f : Int → Int → Value} {B B' : Bk} (h : LkAt w lp mp bp mn f B) (k : BookTo w bp B w' B') : LkAt w' lp mp bp mn f B' := by
  refine ⟨k.but.row h.obj h.n1, h.map.move (k.but.block _ h.map.lt h.n2), k.at_, ?_, ?_⟩
  · intro e
    rcases k.own _ e with q | q
    · exact h.n1 q
    · have := h.obj.lt; omega
  · intro e
    rcases k.own _ e with q | q
    · exact h.n2 q
    · have := h.map.lt; omega
end Go.Proofs.Ytkdiibgjkipdnaa
