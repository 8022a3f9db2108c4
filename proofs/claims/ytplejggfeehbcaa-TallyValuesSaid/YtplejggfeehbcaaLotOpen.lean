/-
  An argument that is a slice of lots, opened.
-/
import Derived.Test.YtplejggfeehbcaaLotC
import Derived.Test.YtplejggfeehbcaaOpen
namespace Go.Proofs.Ytplejggfeehbcaa
open Go.RowKit Go.ChangeShapes Go.WideShapes Go.Deep
set_option linter.unusedSimpArgs false

/-- no list in it weighs more than the reach -/
def Light {H : Type} (t : TypeId) (d : DataW H) : Prop := ∀ n ∈ d.weights Try.prog t, n ≤ reachBytes
theorem light_arg {H : Type} {ts : List TypeId} {ds : List (DataW H)} {j : Nat} {t : TypeId} {d : DataW H} (h : (DataW.weightsEach Try.prog ts ds).all (· ≤ reachBytes) = true) (ht : ts[j]? = some t) (hd : ds[j]? = some d) : Light t d := fun n hn => by
  have := List.all_eq_true.1 h _ (DataW.weights_mem_each ht hd n hn)
  simpa using this
theorem weightsAll_mem {H : Type} {P : Program} {e : TypeId} : ∀ {l : List (DataW H)} {d : DataW H}, d ∈ l → ∀ n ∈ d.weights P e, n ∈ DataW.weightsAll P e l
  | x :: l, d, hd, n, hn => by
    simp only [DataW.weightsAll, List.mem_append]
    rcases List.mem_cons.1 hd with rfl | hd
    · exact .inl hn
    · exact .inr (weightsAll_mem hd n hn)
theorem Light.elem {H : Type} {t e : TypeId} {l m : List (DataW H)} (h : Light t (.slice l m)) (hu : Try.prog.underlying t = some (.slice e)) {d : DataW H} (hd : d ∈ l) : Light e d := fun n hn => h n (by
  simp only [DataW.weights, hu, List.mem_cons, List.mem_append]
  exact .inr (.inl (weightsAll_mem hd n hn)))
theorem Light.len {H : Type} {t e : TypeId} {l m : List (DataW H)} (h : Light t (.slice l m)) (hu : Try.prog.underlying t = some (.slice e)) : (l.length + m.length) * Try.prog.bytesOf e ≤ reachBytes := h _ (by
  simp [DataW.weights, hu])
theorem Light.field {H : Type} {t : TypeId} {fs : Array Field} {l : List (DataW H)} (h : Light t (.agg l)) (hu : Try.prog.underlying t = some (.struct fs)) {j : Nat} {f : Field} {d : DataW H} (hf : fs[j]? = some f) (hd : l[j]? = some d) : Light f.type d := fun n hn => h n (by
  simp only [DataW.weights, hu]
  exact DataW.weights_mem_each (j := j) (by rw [List.getElem?_map, Array.getElem?_toList, hf]; rfl) hd n hn)

/-- a slice of floats inside of an argument -/
theorem fs_inner {H : Type} {enc : TypeId × Value → H} {W : World} {base : Nat} {spare : Nat → Bool} {held : Bool} {n : Nat} {v : Value} {d : DataW H} {ps : List MemPlace} (hl : Light 31 d)
    (h : DataW.trod enc Try.prog W base spare held n 31 [v] = some (d, ps)) : ∃ a len cap zs, v = .slice a len cap ∧ Fs W a len zs ∧ len ≤ cap ∧ (a = none → len = 0 ∧ cap = 0) ∧ len * 8 ≤ 140737488351232 := by
  rcases open_slice1 Try.underlying31 (by kernel_rfl) h with ⟨hcs, _⟩ | ⟨x, l, c, m, n', V, D, Pl, hcs, _, hlc, _, hm, hx, hcell⟩
  · cases hcs
    exact ⟨none, 0, 0, [], rfl, Fs.mk rfl (by omega) (by intro x hx; cases hx) (fun h0 => absurd h0 (by omega)), by omega, fun _ => ⟨rfl, rfl⟩, by omega⟩
  · cases hcs
    obtain ⟨hx, _⟩ := Prod.mk.inj hx
    subst hx
    have z := hl.len Try.underlying31
    rw [show Try.prog.bytesOf 24 = 8 by kernel_rfl] at z
    simp only [List.length_map, List.length_range] at z
    have hz : l * 8 ≤ 140737488351232 := Nat.le_trans (Nat.mul_le_mul_right _ (by omega)) z
    have hlm : l ≤ m := by rw [hm]; split <;> omega
    have hV : ∀ i, i < l → ∃ b, W.cell? (x.add i) = some (.float .f64 b) ∧ b < 18446744073709551616 := by
      intro i hi
      obtain ⟨h1, h2⟩ := hcell i (by omega)
      obtain ⟨b, e1, _, e3⟩ := trod_float Try.underlying24 h2
      refine ⟨b, ?_, by simpa [Lit.wf] using e3⟩
      rw [h1]
      simpa using e1
    obtain ⟨f, hf2⟩ := choose_lt hV
    refine ⟨some x, l, c, (List.range l).map f, rfl, ⟨by simp, by omega, ?_, fun _ => ⟨x, rfl, fun i hi => ?_⟩⟩, hlc, (fun h => nomatch h), hz⟩
    · intro y hy
      obtain ⟨i, hi, rfl⟩ := List.mem_map.1 hy
      exact (hf2 i (List.mem_range.1 hi)).2
    · rw [(hf2 i hi).1]
      simp [List.getD_eq_getElem?_getD, hi]

instance : Inhabited Raw := ⟨⟨0, none, 0, 0⟩⟩
set_option maxRecDepth 100000 in
/-- one lot of an argument -/
theorem lot_inner {H : Type} {enc : TypeId × Value → H} {W : World} {base : Nat} {spare : Nat → Bool} {held : Bool} {n : Nat} {cs : List Value} {d : DataW H} {ps : List MemPlace} (hl : Light 52 d)
    (h : DataW.trod enc Try.prog W base spare held n 52 cs = some (d, ps)) : ∃ (r : Raw) (l : Lot), cs = [.int .i64 r.p, r.sl] ∧ r.p = l.1 ∧ (-9223372036854775808 ≤ l.1 ∧ l.1 ≤ 9223372036854775807) ∧
      Fs W r.A r.k l.2 ∧ r.k ≤ r.c ∧ (r.A = none → r.k = 0 ∧ r.c = 0) ∧ r.k ≤ 17592186044300 := by
  obtain ⟨xs, m, _, hx, hlen, hxl, hf⟩ := DataW.trod_struct Try.underlying52 h
  rw [show Try.prog.cellsOf 52 = 2 by kernel_rfl] at hlen
  obtain ⟨hd, _⟩ := Prod.mk.inj hx
  subst hd
  match cs, hlen with
  | [v0, v1], _ =>
    have f0 : DataW.trod enc Try.prog W base spare held m 3 (List.take (Try.prog.cellsOf 3) (List.drop 0 [v0, v1])) = xs[0]? := hf 0 _ rfl
    have f1 : DataW.trod enc Try.prog W base spare held m 31 (List.take (Try.prog.cellsOf 31) (List.drop 1 [v0, v1])) = xs[1]? := hf 1 _ rfl
    rw [show Try.prog.cellsOf 3 = 1 by kernel_rfl] at f0
    rw [show Try.prog.cellsOf 31 = 1 by kernel_rfl] at f1
    match xs, hxl with
    | [y0, y1], _ =>
      change DataW.trod enc Try.prog W base spare held m 3 [v0] = some y0 at f0
      change DataW.trod enc Try.prog W base spare held m 31 [v1] = some y1 at f1
      obtain ⟨p, hc, _, hw⟩ := DataW.trod_int Try.underlying3 f0
      cases hc
      have hl1 : Light 31 y1.1 := hl.field (j := 1) Try.underlying52 rfl rfl
      obtain ⟨a, k, c, zs, rfl, hF, hkc, hak, hk8⟩ := fs_inner (d := y1.1) (ps := y1.2) hl1 f1
      simp only [Lit.wf, Bool.and_eq_true, decide_eq_true_eq] at hw
      exact ⟨⟨p, a, k, c⟩, (p, zs), rfl, rfl, ⟨hw.1, hw.2⟩, hF, hkc, hak, (show k ≤ _ by omega)⟩

theorem lots_open {H : Type} {enc : TypeId × Value → H} {W : World} {base : Nat} {spare : Nat → Bool} {held : Bool} {t : TypeId} {a : Option Addr} {len cap : Nat} {d : DataW H} {ps : List MemPlace} {ts : List TypeId} {ds : List (DataW H)} {j : Nat}
    (hsz : (DataW.weightsEach Try.prog ts ds).all (· ≤ reachBytes) = true) (ht : ts[j]? = some t) (hd : ds[j]? = some d) (htt : t = 56)
    (h : DataW.Trod enc Try.prog W base spare held t (.slice a len cap) d ps) : ∃ (rs : List Raw) (L : List Lot), Cs W a (rawCells rs) ∧ Lts W (fun _ => True) rs L ∧ L.length = len ∧ (a = none → len = 0 ∧ cap = 0) ∧ len * 32 ≤ 140737488351232 := by
  subst htt
  have hL := light_arg hsz ht hd
  obtain ⟨fuel, hf⟩ := h
  rcases open_slice Try.underlying56 hf with ⟨hcs, _⟩ | ⟨x, l, c, m, n, D, Pl, hcs, _, hlc, _, hm, hx, hi⟩
  · simp [Value.cells] at hcs
    obtain ⟨rfl, rfl, rfl⟩ := hcs
    exact ⟨[], [], fun h0 => absurd h0 (by decide), Lts.nil _ _, rfl, fun _ => ⟨rfl, rfl⟩, by omega⟩
  · simp [Value.cells] at hcs
    obtain ⟨rfl, rfl, rfl⟩ := hcs
    obtain ⟨hx, _⟩ := Prod.mk.inj hx
    subst hx
    have z := hL.len Try.underlying56
    rw [show Try.prog.bytesOf 52 = 32 by kernel_rfl] at z
    simp only [List.length_map, List.length_range] at z
    have hz : len * 32 ≤ 140737488351232 := Nat.le_trans (Nat.mul_le_mul_right _ (by omega)) z
    have hlm : len ≤ m := by rw [hm]; split <;> omega
    have hV : ∀ i, i < len → ∃ b : Raw × Lot, (W.cell? (x.add (2 * i)) = some (.int .i64 b.1.p) ∧ W.cell? (x.add (2 * i + 1)) = some b.1.sl) ∧ b.1.p = b.2.1 ∧ (-9223372036854775808 ≤ b.2.1 ∧ b.2.1 ≤ 9223372036854775807) ∧
        Fs W b.1.A b.1.k b.2.2 ∧ b.1.k ≤ b.1.c ∧ (b.1.A = none → b.1.k = 0 ∧ b.1.c = 0) ∧ b.1.k ≤ 17592186044300 := by
      intro i hil
      obtain ⟨cs, hc, hd⟩ := hi i (by omega)
      rw [show Try.prog.cellsOf 52 = 2 by kernel_rfl] at hc
      obtain ⟨_, _, hcell⟩ := World.cells?_some hc
      obtain ⟨r, l, hcs, h1, h2, h3⟩ := lot_inner (hL.elem Try.underlying56 (List.mem_map.2 ⟨i, List.mem_range.2 hil, rfl⟩)) hd
      subst hcs
      refine ⟨(r, l), ⟨?_, ?_⟩, h1, h2, h3⟩
      · have := hcell 0 (by omega)
        rw [addr_add, Nat.add_zero, Nat.mul_comm] at this
        exact this
      · have := hcell 1 (by omega)
        rw [addr_add, Nat.mul_comm] at this
        exact this
    obtain ⟨f, hf2⟩ := choose_lt hV
    have gR : ∀ i, i < len → ((List.range len).map fun i => (f i).1)[i]? = some (f i).1 := fun i hi => by simp [hi]
    refine ⟨(List.range len).map fun i => (f i).1, (List.range len).map fun i => (f i).2, fun _ => ⟨x, rfl, fun q hq => ?_⟩, ⟨by simp, ?_, ?_⟩, by simp, (fun h => nomatch h), hz⟩
    · rw [rawCells_len, List.length_map, List.length_range] at hq
      rcases Nat.mod_two_eq_zero_or_one q with h0 | h0
      · obtain ⟨i, rfl⟩ : ∃ i, q = 2 * i := ⟨q / 2, by omega⟩
        rw [(hf2 i (by omega)).1.1, rawCells_p _ i _ (gR i (by omega))]
      · obtain ⟨i, rfl⟩ : ∃ i, q = 2 * i + 1 := ⟨q / 2, by omega⟩
        rw [(hf2 i (by omega)).1.2, rawCells_s _ i _ (gR i (by omega))]
    · intro i r l h1 h2
      have hi : i < len := by have := (List.getElem?_eq_some_iff.1 h1).1; simpa using this
      rw [gR i hi] at h1
      cases h1
      have g2 : ((List.range len).map fun i => (f i).2)[i]? = some (f i).2 := by simp [hi]
      rw [g2] at h2
      cases h2
      exact ⟨(hf2 i hi).2.1, (hf2 i hi).2.2.1⟩
    · intro i r l h1 h2
      have hi : i < len := by have := (List.getElem?_eq_some_iff.1 h1).1; simpa using this
      rw [gR i hi] at h1
      cases h1
      have g2 : ((List.range len).map fun i => (f i).2)[i]? = some (f i).2 := by simp [hi]
      rw [g2] at h2
      cases h2
      obtain ⟨a1, a2, a3, a4⟩ := (hf2 i hi).2.2.2
      exact ⟨a1, a2, a3, a4, fun _ _ => trivial⟩
end Go.Proofs.Ytplejggfeehbcaa
