/-
  LocksTurn: three mutexes are made.
-/
import Derived.Test.YtkdiibgjkipdnaaLkY
import Derived.Test.YtkdiibgjkipdnaaAwake
namespace Go.Proofs.Ytkdiibgjkipdnaa
open Go.RowKit Go.Maps
set_option linter.unusedSimpArgs false
set_option linter.unusedVariables false

theorem handleH_c (h : Nat) (w : World) (hk : h < 3) : Calls Try.prog 9 #[.int .i64 ((h : Int) + 1)] w fun e w' => e = .returned (.agg #[.int .u32 ((h : Int) + 1), .int .u32 1]) ∧ Below w.heap.size w w' := by
  have := handle_c (h + 1) w (by omega)
  rw [Int.natCast_add] at this
  exact this
theorem handleG_c (k : Nat) (w : World) (hk : k < 6) : Calls Try.prog 9 #[.int .i64 (11 + (k : Int))] w fun e w' => e = .returned (.agg #[.int .u32 (11 + (k : Int)), .int .u32 1]) ∧ Below w.heap.size w w' := by
  have := handle_c (11 + k) w (by omega)
  rw [Int.natCast_add] at this
  exact this
theorem pick6_c (c : Int) (w : World) (hc : (Lit.int .i64 c).wf = true) : Calls Try.prog 10 #[.int .i64 c, .int .i64 6] w fun e w' => e = .returned (.int .i64 (pk c 6 : Nat)) ∧ w = w' := pick_c c 6 w hc (by omega) (by omega)
theorem pick3_c (c : Int) (w : World) (hc : (Lit.int .i64 c).wf = true) : Calls Try.prog 10 #[.int .i64 c, .int .i64 3] w fun e w' => e = .returned (.int .i64 (pk c 3 : Nat)) ∧ w = w' := pick_c c 3 w hc (by omega) (by omega)
theorem rowLen_c (bp : Nat) (B : Bk) (k : Key) (n : Nat) (w : World) (h : BookAt w bp B) (hk : k.Ok) (hN : B.N.length ≤ 100000) (hn : (inRow k B.N).length = n) :
    Calls Try.prog 14 #[.pointer (some ⟨bp, 0, none⟩), .agg #[.int .u32 k.s, .int .u32 k.g, .int .i64 k.d]] w fun e w' => ∃ A c, e = .returned (.slice A n c) ∧ Below w.heap.size w w' := by
  refine (row_c bp B k w h hk hN).mono ?_
  rintro e w' ⟨v, rfl, ho, hb⟩
  obtain ⟨A, c, rfl, _⟩ := own_form ho
  rw [List.length_map, hn]
  exact ⟨A, c, rfl, hb⟩
/-- so many mutexes are made -/
structure Made (w0 w : World) (lp mp bp lb : Nat) (i : Nat) (f : Int → Int → Value) (mb : Nat → Nat) (B : Bk) : Prop where
  lk : LkAt w lp mp bp i f B
  gr : ∀ h, h < i → Row w (mb h) 82 [.int .u32 0, .int .u32 0]
  fm : ∀ h, h < i → f ((h : Int) + 1) 1 = mutexV (mb h)
  fn : ∀ h, i ≤ h → h < 3 → f ((h : Int) + 1) 1 = .nilIface
  mi : ∀ h k, h < i → k < i → mb h = mb k → h = k
  lo : ∀ h, h < i → w0.heap.size ≤ mb h
  mp0 : w0.heap.size ≤ mp
  arr : Row w lb 31 [.slice none 0 0, .slice none 0 0, .slice none 0 0]
  lb0 : w0.heap.size ≤ lb
  N : B.N = []
  few : B.gens.length = 0 ∧ B.put = 0 ∧ B.mn = 0
  up : ∀ k, B.own bp k → w0.heap.size ≤ k
  bel : Below w0.heap.size w0 w
section
variable {w0 w w' : World} {lp mp bp lb i : Nat} {f : Int → Int → Value} {mb : Nat → Nat} {B : Bk}
theorem Made.below (h : Made w0 w lp mp bp lb i f mb B) (hb : Below w.heap.size w w') : Made w0 w' lp mp bp lb i f mb B :=
  ⟨h.lk.below hb, fun k hk => (h.gr k hk).below hb (h.gr k hk).lt, h.fm, h.fn, h.mi, h.lo, h.mp0, h.arr.below hb h.arr.lt, h.lb0, h.N, h.few, h.up, h.bel.trans (hb.mono h.bel.size)⟩
theorem Made.next (h : Made w0 w lp mp bp lb i f mb B) {b : Nat} (hi : i < 3) (hb : w.heap.size ≤ b) (hr : Row w' b 82 [.int .u32 0, .int .u32 0]) (hl : LkAt w' lp mp bp (i + 1) (fun s' g' => if s' = (i : Int) + 1 ∧ g' = 1 then mutexV b else f s' g') B) (hbt : But (fun k => k = mp) w w') :
    Made w0 w' lp mp bp lb (i + 1) (fun s' g' => if s' = (i : Int) + 1 ∧ g' = 1 then mutexV b else f s' g') (upd3 mb i b) B := by
  refine ⟨hl, fun k hk => ?_, fun k hk => ?_, fun k hk hk3 => ?_, fun x y hx hy e => ?_, fun k hk => ?_, h.mp0, hbt.row h.arr (fun e => h.lk.map_ne h.arr e.symm), h.lb0, h.N, h.few, h.up, But.below h.bel hbt h.bel.size (fun k e => by rw [e]; exact h.mp0)⟩
  · by_cases e : k = i
    · subst e; rw [upd3_same]; exact hr
    · rw [upd3_ne _ _ e]; exact hbt.row (h.gr k (by omega)) (fun e2 => h.lk.map_ne (h.gr k (by omega)) e2.symm)
  · by_cases e : k = i
    · subst e; rw [upd3_same, if_pos ⟨rfl, rfl⟩]
    · rw [upd3_ne _ _ e, if_neg (fun e2 => by have := e2.1; omega)]; exact h.fm k (by omega)
  · rw [if_neg (fun e2 => by have := e2.1; omega)]; exact h.fn k (by omega) hk3
  · by_cases ex : x = i
    · by_cases ey : y = i
      · rw [ex, ey]
      · subst ex; rw [upd3_same, upd3_ne _ _ ey] at e; have := (h.gr y (by omega)).lt; omega
    · by_cases ey : y = i
      · subst ey; rw [upd3_same, upd3_ne _ _ ex] at e; have := (h.gr x (by omega)).lt; omega
      · rw [upd3_ne _ _ ex, upd3_ne _ _ ey] at e; exact h.mi x y (by omega) (by omega) e
  · by_cases e : k = i
    · subst e; rw [upd3_same]; exact Nat.le_trans h.bel.size hb
    · rw [upd3_ne _ _ e]; exact h.lo k (by omega)
theorem Made.turn (h : Made w0 w lp mp bp lb 3 f mb B) : Turn w0 w lp mp bp 3 mb f B (fun _ => []) 0 ∧ Lines w0 w lb (fun _ => []) (fun _ => .slice none 0 0) := by
  have hN := h.N
  refine ⟨⟨h.lk, h.gr, h.mi, fun k hk => ?_, fun x hx => ?_, ?_, (fun k hk x hx => by cases hx), fun x hx => ?_, ?_, h.bel, h.up, h.lo, fun k hk => Nat.zero_le _⟩, ⟨h.arr, fun k hk => Tail.nil _ _ _ _, (fun a b q _ _ _ e => by cases e), h.lb0⟩⟩
  · rw [hN]; rfl
  · rw [hN] at hx; cases hx
  · unfold Apart; rw [hN]; exact List.Pairwise.nil
  · rw [hN] at hx; cases hx
  · rw [hN]; obtain ⟨a, b, c⟩ := h.few; rw [a, b, c]; exact ⟨Nat.le_refl _, by omega, Nat.le_refl _, Nat.le_refl _⟩
end
end Go.Proofs.Ytkdiibgjkipdnaa
