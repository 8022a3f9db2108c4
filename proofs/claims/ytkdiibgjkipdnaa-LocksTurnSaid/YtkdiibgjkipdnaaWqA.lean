/-
  Waits in memory: records, rows, the map of rows.
-/
import Derived.Test.YtkdiibgjkipdnaaMem
import Derived.Test.YtkdiibgjkipdnaaChecked
import Derived.Maps.OwnSet
import Derived.Maps.AppendAt
import Derived.Maps.OwnOps
import Derived.Maps.Views
import Derived.Maps.Keyed
import Derived.DeepKeys4
import Derived.KernelRfl
import Derived.Laws.OwnMore
namespace Go.Proofs.Ytkdiibgjkipdnaa
open Go.RowKit Go.Maps
set_option linter.unusedSimpArgs false

/-- a record of a wait: its own handle, who waits, its row, the arm, the value -/
structure Rc where
  ms : Int
  mg : Int
  hs : Int
  hg : Int
  os : Int
  og : Int
  sd : Int
  arm : Int
  vn : Int
  vs : Int
  vg : Int
instance : DecidableEq Rc := fun a b => decidable_of_iff (a.ms = b.ms ∧ a.mg = b.mg ∧ a.hs = b.hs ∧ a.hg = b.hg ∧ a.os = b.os ∧ a.og = b.og ∧ a.sd = b.sd ∧ a.arm = b.arm ∧ a.vn = b.vn ∧ a.vs = b.vs ∧ a.vg = b.vg) (by
  cases a; cases b; simp)
def Rc.cells (r : Rc) : List Value := [.int .u32 r.ms, .int .u32 r.mg, .int .u32 r.hs, .int .u32 r.hg, .int .u32 r.os, .int .u32 r.og, .int .i64 r.sd, .int .i64 r.arm, .int .i64 r.vn, .int .u32 r.vs, .int .u32 r.vg]
def Rc.agg (r : Rc) : Value := .agg r.cells.toArray
/-- a row's name -/
structure Key where
  s : Int
  g : Int
  d : Int
instance : DecidableEq Key := fun a b => decidable_of_iff (a.s = b.s ∧ a.g = b.g ∧ a.d = b.d) (by
  cases a; cases b; simp)
def Key.val (k : Key) : Value := .agg #[.int .u32 k.s, .int .u32 k.g, .int .i64 k.d]
structure Key.Ok (k : Key) : Prop where
  s : (Lit.int .u32 k.s).wf = true
  g : (Lit.int .u32 k.g).wf = true
  d : (Lit.int .i64 k.d).wf = true
def Rc.key (r : Rc) : Key := ⟨r.os, r.og, r.sd⟩
/-- a wait in memory: its block, its row's block, its record, its number -/
structure Nd where
  blk : Nat
  rb : Nat
  rc : Rc
  ser : Int
def pt : Option Nat → Value
  | none => .pointer none
  | some b => .pointer (some ⟨b, 0, none⟩)
def Nd.cells (x : Nd) (a n : Option Nat) : List Value := x.rc.cells ++ [.int .i64 x.ser, pt a, pt n]
theorem pt_inj {a b : Option Nat} (h : pt a = pt b) : a = b := by
  cases a <;> cases b <;> simp [pt] at h <;> simp [h]

/-! ### the map of rows -/
def heldV (v : Value) : Option (DataW Value × List MemPlace) := some (.held v, [])
theorem laidOut : laidOutB Try.prog = true := by kernel_rfl
theorem rowKeyed : Keyed Try.prog 60 := Keyed.of_law (deep_law_laid laidOut (m := 3) (by omega) (by decide +kernel) (by kernel_rfl) (by kernel_rfl))
theorem lits_int {t : TypeId} {q : IntKind} {n : Int} {m : Nat} (ht : Try.prog.underlying t = some (.int q)) (hw : (Lit.int q n).wf = true) : Try.prog.keyLits (m + 1) t [.int q n] = some [.int q n] := by
  simp [Program.keyLits, ht, hw]
theorem lits_handle {a b : Int} {m : Nat} (ha : (Lit.int .u32 a).wf = true) (hb : (Lit.int .u32 b).wf = true) : Try.prog.keyLits (m + 2) 35 [.int .u32 a, .int .u32 b] = some [.int .u32 a, .int .u32 b] := by
  have c1 : Try.prog.cellsOf 33 = 1 := by kernel_rfl
  have i1 := lits_int (m := m) Try.underlying33 ha
  have i2 := lits_int (m := m) Try.underlying33 hb
  unfold Program.keyLits
  simp only [Try.underlying35]
  rw [if_pos ⟨by kernel_rfl, by kernel_rfl⟩]
  simp [List.mapM_cons, c1, i1, i2]
def kl (k : Key) : Lit := .string (keyBytes [.int .u32 k.s, .int .u32 k.g, .int .i64 k.d])
theorem key_of {k : Key} (h : k.Ok) : keyOf Try.prog 60 k.val = some (kl k) := by
  obtain ⟨m, hm⟩ : ∃ m, Try.prog.types.size = m + 2 := ⟨Try.prog.types.size - 2, by kernel_rfl⟩
  have hf : (k.val.formed Try.prog 60) = true := by kernel_rfl
  have hk : Try.prog.keyType 60 = true := by decide +kernel
  have c2 : Try.prog.cellsOf 35 = 2 := by kernel_rfl
  have c1 : Try.prog.cellsOf 58 = 1 := by kernel_rfl
  have i1 := lits_handle (m := m) h.s h.g
  have i2 := lits_int (m := m + 1) Try.underlying58 h.d
  unfold keyOf
  simp only [Try.underlying60, hk, hf, Bool.and_self, if_true, hm]
  unfold Program.keyLits
  simp only [Try.underlying60]
  rw [if_pos ⟨by kernel_rfl, by kernel_rfl⟩]
  simp [List.mapM_cons, c1, c2, i1, i2, Key.val, Value.cells, kl]
theorem Key.val_inj {a b : Key} (h : a.val = b.val) : a = b := by
  cases a; cases b
  simp only [Key.val, Value.agg.injEq, Array.mk.injEq, List.cons.injEq, Value.int.injEq, and_true, true_and] at h
  obtain ⟨rfl, rfl, rfl⟩ := h
  rfl
theorem kl_inj {a b : Key} (ha : a.Ok) (hb : b.Ok) (h : kl a = kl b) : a = b := by
  have h1 := key_of ha
  rw [h] at h1
  exact Key.val_inj (rowKeyed.inj h1 (key_of hb))
/-- block b holds the map from rows' names to their blocks -/
structure RMap (w : World) (b n : Nat) (f : Key → Option Nat) : Prop where
  ex : ∃ D : DataW Value, w.ownsMap Try.prog 60 heldV b n D ∧ Tidy D ∧ ∀ k, k.Ok → D.atKey (kl k) (.held (pt none)) = .held (pt (f k))
theorem RMap.made (w : World) : RMap (w.alloc (.map #[] 0)) w.heap.size 0 fun _ => none :=
  ⟨.map [], World.ownsMap_made w Try.prog 60 heldV, tidy_empty, fun _ _ => rfl⟩
theorem RMap.lt {w : World} {b n : Nat} {f : Key → Option Nat} (h : RMap w b n f) : b < w.heap.size := by
  obtain ⟨D, h1, _⟩ := h.ex
  exact h1.lt
theorem RMap.kept {w w' : World} {b n : Nat} {f : Key → Option Nat} {row : Option Nat} (h : RMap w b n f) (hg : w.grownBy w' row) (hne : some b ≠ row) : RMap w' b n f := by
  obtain ⟨D, h1, h2, h3⟩ := h.ex
  exact ⟨D, h1.kept hg hne, h2, h3⟩
theorem zeroPtr (w : World) : (zeroValue 91).run Try.prog w = .ok (pt none) w := by kernel_rfl
theorem RMap.find {w : World} {b n : Nat} {f : Key → Option Nat} (h : RMap w b n f) {k : Key} (hk : k.Ok) :
    (Instr.lookup 70 (.map (some b)) k.val false).run Try.prog w = .ok (pt (f k)) w := by
  obtain ⟨D, h1, h2, h3⟩ := h.ex
  obtain ⟨v, ps, hr, hv⟩ := h1.lookup rowKeyed Try.underlying70 (zeroPtr w) (zd := .held (pt none)) (zp := []) rfl (key_of hk)
  have hv' : DataW.held v = D.atKey (kl k) (.held (pt none)) := by
    unfold heldV at hv
    exact (Prod.mk.inj (Option.some.inj hv)).1
  rw [h3 k hk] at hv'
  rw [hr, DataW.held.inj hv']
theorem RMap.put {w : World} {b n : Nat} {f : Key → Option Nat} (h : RMap w b n f) (hn : n < maxLen) {k : Key} (hk : k.Ok) (r : Nat) :
    ∃ w2, (Instr.mapUpdate 70 (.map (some b)) k.val (pt (some r))).run Try.prog w = .ok () w2 ∧ w.grownBy w2 (some b) ∧ RMap w2 b (n + 1) fun y => if y = k then some r else f y := by
  obtain ⟨D, h1, h2, h3⟩ := h.ex
  obtain ⟨w2, hr, own2, hg2⟩ := h1.update rowKeyed Try.underlying70 hn (d := .held (pt (some r))) (ps := []) (key_of hk) rfl
  have hkl : WideAt.IsKeyLit (kl k) := rowKeyed.key (key_of hk)
  refine ⟨w2, hr, hg2, _, own2, h2.put hkl _, fun y hy => ?_⟩
  by_cases e : y = k
  · subst e; rw [if_pos rfl]; exact atKey_put_same h2.isMap hkl _ _
  · rw [if_neg e, atKey_put_other (fun e2 => e (kl_inj hy hk e2))]; exact h3 y hy
theorem RMap.drop {w : World} {b n : Nat} {f : Key → Option Nat} (h : RMap w b n f) {k : Key} (hk : k.Ok) (ty : TypeId) :
    ∃ w2, (Builtin.delete_ #[70, 60] ty #[.map (some b), k.val]).run Try.prog w = .ok (.tuple #[]) w2 ∧ w.grownBy w2 (some b) ∧ RMap w2 b n fun y => if y = k then none else f y := by
  obtain ⟨D, h1, h2, h3⟩ := h.ex
  obtain ⟨w2, hr, own2, hg2⟩ := h1.drop rowKeyed Try.underlying70 (key_of hk) ty
  have hkl : WideAt.IsKeyLit (kl k) := rowKeyed.key (key_of hk)
  refine ⟨w2, hr, hg2.grown, _, own2, h2.del _, fun y hy => ?_⟩
  by_cases e : y = k
  · subst e; rw [if_pos rfl]; exact atKey_del_same _
  · rw [if_neg e, atKey_del_other (fun e2 => e (kl_inj hy hk e2))]; exact h3 y hy
end Go.Proofs.Ytkdiibgjkipdnaa
