/-
  A list of lots that the law itself makes: built, handed in, written over.
-/
import Derived.Test.YtplejggfeehbcaaLotJ
import Derived.Test.YtplejggfeehbcaaLotH
namespace Go.Proofs.Ytplejggfeehbcaa
open Go.RowKit
set_option linter.unusedSimpArgs false

def marks : List Value := [.float .f64 9094988921128908188, .float .f64 9110180938284831491]
theorem Row.ne {w : World} {b b' e e' : Nat} {vs vs' : List Value} (h : Row w b e vs) (h' : Row w b' e' vs') (he : e ≠ e') : b ≠ b' := by
  rintro rfl
  unfold Row at h h'
  rw [h] at h'
  injection h' with h'
  injection h' with _ ht
  exact he ht
theorem row_own_ne {w : World} {base e e' n size b : Nat} {v : Value} {xs vs : List Value} (h : w.ownsRow base e size v n xs) (hr : Row w b e' vs) (he : e ≠ e') : v.ownBlock ≠ some b := by
  rcases h.2 with ⟨rfl, _⟩ | ⟨g, cap, cur, rfl, _, hh, _⟩
  · simp [Value.ownBlock]
  · intro h2
    have h3 : g = b := by simpa [Value.ownBlock] using h2
    subst h3
    unfold Row at hr
    rw [hh] at hr
    injection hr with hr
    injection hr with _ ht
    exact he ht

/-- a list of lots of the law's own, as it is built -/
structure Mine (w : World) (base : Nat) (v : Value) (rs : List Raw) (L : List Lot) : Prop where
  own : w.ownsRow base 52 2 v rs.length (rawCells rs)
  len : rs.length = L.length
  each : ∀ (i : Nat) (r : Raw) (l : Lot), rs[i]? = some r → L[i]? = some l → (r.p = l.1 ∧ -9223372036854775808 ≤ l.1 ∧ l.1 ≤ 9223372036854775807) ∧ r.k = l.2.length ∧ r.k ≤ 17592186044300 ∧ (∀ x ∈ l.2, x < 18446744073709551616) ∧ r.c = r.k + 2 ∧
    ∃ g, base ≤ g ∧ r.A = some ⟨g, 0, none⟩ ∧ Row w g 24 (flo l.2 ++ marks)
theorem Mine.nil (w : World) (base : Nat) : Mine w base (.slice none 0 0) [] [] := ⟨World.ownsRow_nil _ _ _ _, rfl, fun i r l h => by simp at h⟩
theorem Mine.snoc {w w4 w5 : World} {base z : Nat} {v v' : Value} {rs : List Raw} {L : List Lot} {r : Raw} {l : Lot} (h : Mine w base v rs L) (hb : Below w.heap.size w w4) (hg : w4.grownBy w5 v.ownBlock) (hown : w5.ownsRow base 52 2 v' (rs.length + 1) (rawCells rs ++ [.int .i64 r.p, r.sl]))
    (hp : r.p = l.1 ∧ -9223372036854775808 ≤ l.1 ∧ l.1 ≤ 9223372036854775807) (hk : r.k = l.2.length) (hk2 : r.k ≤ 17592186044300) (hx : ∀ x ∈ l.2, x < 18446744073709551616) (hc : r.c = r.k + 2) (hz : base ≤ z) (hA : r.A = some ⟨z, 0, none⟩) (hr : Row w4 z 24 (flo l.2 ++ marks)) :
    Mine w5 base v' (rs ++ [r]) (L ++ [l]) := by
  have hO4 : w4.ownsRow base 52 2 v rs.length (rawCells rs) := World.ownsRow.kept h.own (below_grown hb none) (Classical.em _)
  have carry : ∀ g vs, Row w4 g 24 vs → Row w5 g 24 vs := fun g vs hg4 => (hg.block g hg4.lt (fun e => row_own_ne hO4 hg4 (by decide) e.symm)).trans hg4
  refine ⟨?_, by simp [h.len], fun i x y h1 h2 => ?_⟩
  · rw [List.length_append, List.length_singleton, rawCells_append]
    exact hown
  · by_cases hi : i < rs.length
    · rw [List.getElem?_append_left hi] at h1
      rw [List.getElem?_append_left (by rw [← h.len]; exact hi)] at h2
      obtain ⟨a1, a2, a3, a4, a5, g, a6, a7, a8⟩ := h.each i x y h1 h2
      exact ⟨a1, a2, a3, a4, a5, g, a6, a7, carry _ _ (a8.grown hb)⟩
    · rw [List.getElem?_append_right (by omega)] at h1
      rw [List.getElem?_append_right (by rw [← h.len]; omega), ← h.len] at h2
      rcases Nat.eq_zero_or_pos (i - rs.length) with h0 | h0
      · rw [h0] at h1 h2
        cases h1
        cases h2
        exact ⟨hp, hk, hk2, hx, hc, z, hz, hA, carry _ _ hr⟩
      · rw [List.getElem?_eq_none (by simp; omega)] at h1
        cases h1
theorem Mine.lts {w : World} {base : Nat} {v : Value} {rs : List Raw} {L : List Lot} (h : Mine w base v rs L) : Lts w (fun _ => True) rs L :=
  ⟨h.len, fun i r l h1 h2 => (h.each i r l h1 h2).1, fun i r l h1 h2 => by
    obtain ⟨a1, a2, a3, a4, a5, g, a6, a7, a8⟩ := h.each i r l h1 h2
    refine ⟨?_, by omega, fun e => by rw [a7] at e; (cases e), a3, fun _ _ => trivial⟩
    rw [a7, a2]
    exact Fs.of_row a8 (by omega) a4⟩
theorem Mine.cs {w : World} {base : Nat} {A : Option Addr} {n c : Nat} {rs : List Raw} {L : List Lot} (h : Mine w base (.slice A n c) rs L) : Cs w A (rawCells rs) ∧ (A = none → n = 0 ∧ c = 0) ∧ n = rs.length := by
  rcases h.own.2 with ⟨e1, e2⟩ | ⟨g, cap, cur, e1, hg, hh, hnc, hk1, hk2, htake⟩
  · cases e1
    refine ⟨fun h0 => ?_, fun _ => ⟨rfl, rfl⟩, ?_⟩
    · rw [rawCells_len, e2] at h0; omega
    · exact e2.symm
  · cases e1
    refine ⟨fun _ => ⟨_, rfl, fun j hj => ?_⟩, (fun e => nomatch e), rfl⟩
    rw [add_zero]
    have : Row w g 52 cur.toList := by unfold Row; rw [hh]
    rw [this.cell, ← htake, List.getElem?_take]
    rw [if_pos]
    rw [rawCells_len] at hj
    omega

/-- .. while it is written over: still where it was -/
structure Spoilt (w : World) (lo hi : Nat) (A : Option Addr) (rs : List Raw) : Prop where
  top : 0 < rs.length → ∃ G vs, A = some ⟨G, 0, none⟩ ∧ lo ≤ G ∧ G < hi ∧ Row w G 52 vs ∧ ∀ i r, rs[i]? = some r → vs[2 * i + 1]? = some r.sl ∧ 2 * i < vs.length
  each : ∀ (i : Nat) (r : Raw), rs[i]? = some r → ∃ g vs, lo ≤ g ∧ g < hi ∧ r.A = some ⟨g, 0, none⟩ ∧ Row w g 24 vs ∧ r.k ≤ vs.length ∧ r.k ≤ 17592186044300
theorem Mine.spoilt {w w' : World} {base : Nat} {A : Option Addr} {n c : Nat} {rs : List Raw} {L : List Lot} (h : Mine w base (.slice A n c) rs L) (hb : Below w.heap.size w w') : Spoilt w' base w.heap.size A rs := by
  refine ⟨fun h0 => ?_, fun i r h1 => ?_⟩
  · rcases h.own.2 with ⟨e1, e2⟩ | ⟨g, cap, cur, e1, hg, hh, hnc, hk1, hk2, htake⟩
    · omega
    · cases e1
      have hr : Row w g 52 cur.toList := by unfold Row; rw [hh]
      refine ⟨g, cur.toList, rfl, hg, hr.lt, hr.grown hb, fun i r h1 => ?_⟩
      have hi := (List.getElem?_eq_some_iff.1 h1).1
      have h4 := rawCells_s rs i r h1
      rw [← htake, List.getElem?_take] at h4
      rw [if_pos (by omega)] at h4
      refine ⟨h4, ?_⟩
      have := (List.getElem?_eq_some_iff.1 h4).1
      omega
  · have hi := (List.getElem?_eq_some_iff.1 h1).1
    obtain ⟨a1, a2, a3, a4, a5, g, a6, a7, a8⟩ := h.each i r _ h1 (List.getElem?_eq_getElem (by rw [← h.len]; exact hi))
    refine ⟨g, _, a6, a8.lt, a7, a8.grown hb, ?_, a3⟩
    rw [List.length_append, flo_len]
    omega
theorem Spoilt.weight {w : World} {lo hi : Nat} {A : Option Addr} {rs : List Raw} (h : Spoilt w lo hi A rs) {g : Nat} {vs : List Value} (hr : Row w g 24 vs) (k : Nat) (x : Nat) : Spoilt (w.setCell ⟨g, k, none⟩ (.float .f64 x)) lo hi A rs := by
  refine ⟨fun h0 => ?_, fun i r h1 => ?_⟩
  · obtain ⟨G, us, e1, e2, e3, e4, e5⟩ := h.top h0
    exact ⟨G, us, e1, e2, e3, e4.far (p := ⟨g, k, none⟩) (e4.ne hr (by decide)) _, e5⟩
  · obtain ⟨g', us, e1, e2, e3, e4, e5⟩ := h.each i r h1
    by_cases hg : g' = g
    · subst hg
      exact ⟨g', _, e1, e2, e3, e4.set k _, by rw [List.length_set]; exact e5⟩
    · exact ⟨g', us, e1, e2, e3, e4.far (p := ⟨g, k, none⟩) hg _, e5⟩
theorem Spoilt.pick {w : World} {lo hi : Nat} {A : Option Addr} {rs : List Raw} (h : Spoilt w lo hi A rs) {G : Nat} (hA : A = some ⟨G, 0, none⟩) (i : Nat) (v : Value) : Spoilt (w.setCell ⟨G, 2 * i, none⟩ v) lo hi A rs := by
  have key : ∀ x, ∀ r : Raw, rs[x]? = some r → ∃ vs, Row w G 52 vs := fun x r h1 => by
    obtain ⟨G', us, e1, e2, e3, e4, e5⟩ := h.top (by have := (List.getElem?_eq_some_iff.1 h1).1; omega)
    rw [hA] at e1
    cases e1
    exact ⟨us, e4⟩
  refine ⟨fun h0 => ?_, fun x r h1 => ?_⟩
  · obtain ⟨G', us, e1, e2, e3, e4, e5⟩ := h.top h0
    have e6 := e1
    rw [hA] at e1
    cases e1
    refine ⟨G, _, e6, e2, e3, e4.set (2 * i) v, fun y r hy => ?_⟩
    obtain ⟨a1, a2⟩ := e5 y r hy
    exact ⟨by rw [List.getElem?_set_ne (by omega)]; exact a1, by rw [List.length_set]; exact a2⟩
  · obtain ⟨us, hG⟩ := key x r h1
    obtain ⟨g', vs, e1, e2, e3, e4, e5⟩ := h.each x r h1
    exact ⟨g', vs, e1, e2, e3, e4.far (p := ⟨G, 2 * i, none⟩) (e4.ne hG (by decide)) _, e5⟩
theorem Mine.form {w : World} {base : Nat} {v : Value} {rs : List Raw} {L : List Lot} (h : Mine w base v rs L) : ∃ A c, v = .slice A rs.length c := by
  rcases h.own.2 with ⟨e1, e2⟩ | ⟨g, cap, cur, e1, _⟩
  · exact ⟨none, 0, by rw [e1, e2]⟩
  · exact ⟨_, _, e1⟩

/-- what there is while the law writes over what it handed in -/
structure Stage (w0 wx : World) (mid hi b : Nat) (A : Option Addr) (us : List Raw) (L : List Lot) (M : Option Addr) (len cap : Nat) : Prop where
  sp : Spoilt wx w0.heap.size mid A us
  sc : SchedIn wx mid hi b L 0
  rf : Row wx hi 61 [.slice M len cap, .int .i64 0]
  bl : Below w0.heap.size w0 wx
  mh : mid ≤ hi
theorem Stage.weight {w0 wx : World} {mid hi b len cap : Nat} {A M : Option Addr} {us : List Raw} {L : List Lot} (h : Stage w0 wx mid hi b A us L M len cap) {g : Nat} {vs : List Value} (hr : Row wx g 24 vs) (h1 : w0.heap.size ≤ g) (h2 : g < mid) (k : Nat) (x : Nat) :
    Stage w0 (wx.setCell ⟨g, k, none⟩ (.float .f64 x)) mid hi b A us L M len cap :=
  ⟨h.sp.weight hr k x, h.sc.amid (Amid.set _ _ (.inl h2)), h.rf.far (p := ⟨g, k, none⟩) (by show hi ≠ g; have := h.mh; omega) _, h.bl.setCell (p := ⟨g, k, none⟩) h1 _, h.mh⟩
theorem Stage.pick {w0 wx : World} {mid hi b len cap : Nat} {A M : Option Addr} {us : List Raw} {L : List Lot} (h : Stage w0 wx mid hi b A us L M len cap) {G : Nat} (hA : A = some ⟨G, 0, none⟩) (h1 : w0.heap.size ≤ G) (h2 : G < mid) (i : Nat) (v : Value) :
    Stage w0 (wx.setCell ⟨G, i * 2, none⟩ v) mid hi b A us L M len cap := by
  rw [Nat.mul_comm]
  exact ⟨h.sp.pick hA i v, h.sc.amid (Amid.set _ _ (.inl h2)), h.rf.far (p := ⟨G, 2 * i, none⟩) (by show hi ≠ G; have := h.mh; omega) _, h.bl.setCell (p := ⟨G, 2 * i, none⟩) h1 _, h.mh⟩
/-- what the round at i reads -/
theorem Stage.look {w0 wx : World} {mid hi b len cap : Nat} {A M : Option Addr} {us : List Raw} {L : List Lot} (h : Stage w0 wx mid hi b A us L M len cap) {i : Nat} {r : Raw} (hr : us[i]? = some r) {G : Nat} (hA : A = some ⟨G, 0, none⟩) {g : Nat} (hg : r.A = some ⟨g, 0, none⟩) :
    (∃ v0, wx.cell? ⟨G, i * 2, none⟩ = some v0) ∧ wx.frozen? ⟨G, i * 2, none⟩ = false ∧ wx.cell? ⟨G, i * 2 + 1, none⟩ = some (.slice (some ⟨g, 0, none⟩) r.k r.c) ∧ ∃ vs, Row wx g 24 vs ∧ r.k ≤ vs.length := by
  obtain ⟨G', vs, e1, e2, e3, e4, e5⟩ := h.sp.top (by have := (List.getElem?_eq_some_iff.1 hr).1; omega)
  rw [hA] at e1
  cases e1
  obtain ⟨a1, a2⟩ := e5 i r hr
  obtain ⟨g', us', b1, b2, b3, b4, b5, b6⟩ := h.sp.each i r hr
  rw [hg] at b3
  cases b3
  refine ⟨⟨vs[2 * i], ?_⟩, e4.frozen _, ?_, us', b4, b5⟩
  · rw [e4.cell, Nat.mul_comm, List.getElem?_eq_getElem a2]
  · rw [e4.cell, Nat.mul_comm, a1]
    unfold Raw.sl
    rw [hg]
end Go.Proofs.Ytplejggfeehbcaa
