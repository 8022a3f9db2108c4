/-
  pick, has of the law; Put in one word.
-/
import Derived.Test.YtgndpodeedjohaaWqW
namespace Go.Proofs.Ytgndpodeedjohaa
open Go.RowKit Go.Maps
set_option linter.unusedSimpArgs false

def pk (c : Int) (n : Nat) : Nat := (if c < 0 then -(c + 1) else c).toNat % n
theorem pk_lt {c : Int} {n : Nat} (h : 0 < n) : pk c n < n := Nat.mod_lt _ h
theorem pick_c (c : Int) (n : Nat) (w : World) (hc : (Lit.int .i64 c).wf = true) (hn : 0 < n) (hn2 : n ≤ 100000) :
    Calls Try.prog 13 #[.int .i64 c, .int .i64 n] w fun e w' => e = .returned (.int .i64 (pk c n : Nat)) ∧ w = w' := by
  have hc' : -9223372036854775808 ≤ c ∧ c ≤ 9223372036854775807 := by simp [Lit.wf, IntKind.min, IntKind.max, IntKind.signed, IntKind.bits] at hc; omega
  have n0 : ¬ (n : Int) = 0 := by omega
  have n1 : ((n : Int) == 0) = false := by simpa using n0
  have n2 : ¬ (n : Int) = -1 := by omega
  by_cases h : c < 0
  · have d0 : decide (c < 0) = true := decide_eq_true h
    have hp : Int.tmod (-(c + 1)) n = (pk c n : Nat) := by
      unfold pk
      rw [if_pos h, Int.tmod_eq_emod_of_nonneg (by omega), Int.natCast_emod, Int.toNat_of_nonneg (by omega)]
    go_enter Try.func13, Try.ntmps13
    go_wp2
    go_ret
    exact ⟨rfl, rfl⟩
  · have d0 : decide (c < 0) = false := decide_eq_false h
    have hp : Int.tmod c n = (pk c n : Nat) := by
      unfold pk
      rw [if_neg h, Int.tmod_eq_emod_of_nonneg (by omega), Int.natCast_emod, Int.toNat_of_nonneg (by omega)]
    go_enter Try.func13, Try.ntmps13
    go_wp2
    go_ret
    exact ⟨rfl, rfl⟩
theorem recs_at {T : List Rc} : ∀ {i : Nat} {r : Rc}, T[i]? = some r → ∀ k, k < 11 → (recs T)[i * 11 + k]? = r.cells[k]? := by
  induction T with
  | nil => intro i r h; simp at h
  | cons a T ih =>
    intro i r h k hk
    have hl : a.cells.length = 11 := rfl
    cases i with
    | zero =>
      simp at h; subst h
      rw [recs, List.getElem?_append_left (by omega)]
      congr 1; omega
    | succ i =>
      rw [recs, List.getElem?_append_right (by omega), hl]
      have := ih (i := i) (r := r) (by simpa using h) k hk
      rw [← this]; congr 1; omega
/-- a list of records that a slice shows -/
def RecsAt (w : World) (v : Value) (T : List Rc) : Prop := ∃ A c, v = .slice A T.length c ∧ ∀ i r, T[i]? = some r → ∃ g, A = some ⟨g, 0, none⟩ ∧ g < w.heap.size ∧ ∀ k, k < 11 → w.cell? ⟨g, i * 11 + k, none⟩ = r.cells[k]?
theorem recsAt_own {w : World} {base : Nat} {v : Value} {T : List Rc} (h : w.ownsRow base 57 11 v T.length (recs T)) : RecsAt w v T := by
  obtain ⟨A, c, e, hc⟩ := own_form h
  refine ⟨A, c, e, fun i r hr => ?_⟩
  obtain ⟨g, hg, _⟩ := hc (i * 11 + 0) (.int .u32 r.ms) (by rw [recs_at hr 0 (by omega)]; rfl)
  refine ⟨g, hg, (h.lt g (by rw [e, hg]; rfl)).2, fun k hk => ?_⟩
  have hk2 : ∃ u, r.cells[k]? = some u := ⟨_, List.getElem?_eq_getElem (show k < r.cells.length from hk)⟩
  obtain ⟨u, hu⟩ := hk2
  obtain ⟨g', hg', h1, _⟩ := hc (i * 11 + k) u (by rw [recs_at hr k hk]; exact hu)
  rw [hg] at hg'
  injection hg' with e2
  injection e2 with e2
  subst e2
  rw [h1, hu]
theorem RecsAt.move {w w' : World} {v : Value} {T : List Rc} (h : RecsAt w v T) (hb : ∀ g, v.ownBlock = some g → g < w.heap.size → w'.heap[g]? = w.heap[g]?) (hs : w.heap.size ≤ w'.heap.size) : RecsAt w' v T := by
  obtain ⟨A, c, e, hc⟩ := h
  refine ⟨A, c, e, fun i r hr => ?_⟩
  obtain ⟨g, hg, hl, hk⟩ := hc i r hr
  refine ⟨g, hg, Nat.lt_of_lt_of_le hl hs, fun k hk' => ?_⟩
  rw [World.cell?_of_block (hb g (by rw [e, hg]; rfl) hl)]
  exact hk k hk'
def hasN (T : List Rc) (s g : Int) : Nat := (T.filter fun r => sameH r.ms r.mg s g).length
theorem hasN_take {T : List Rc} {s g : Int} {i : Nat} {r : Rc} (h : T[i]? = some r) : hasN (T.take (i + 1)) s g = hasN (T.take i) s g + (if sameH r.ms r.mg s g then 1 else 0) := by
  unfold hasN
  rw [take_next h, List.filter_append, List.length_append, List.filter_cons]
  cases sameH r.ms r.mg s g <;> simp
theorem hasN_le (T : List Rc) (s g : Int) : hasN T s g ≤ T.length := List.length_filter_le _ _
set_option maxHeartbeats 2000000 in
set_option maxRecDepth 100000 in
theorem has_c (v : Value) (T : List Rc) (s g : Int) (w : World) (h : RecsAt w v T) (hT : T.length ≤ 100000) :
    Calls Try.prog 17 #[v, .agg #[.int .u32 s, .int .u32 g]] w fun e w' => e = .returned (.int .i64 (hasN T s g : Nat)) ∧ Below w.heap.size w w' := by
  have hA : Below w.heap.size w (w.alloc (.cells #[.int .u32 s, .int .u32 g] 41)) := (Below.refl _ _).alloc (Nat.le_refl _) _
  have hR := Row.new w 41 [.int .u32 s, .int .u32 g]
  change Row (w.alloc (.cells #[.int .u32 s, .int .u32 g] 41)) _ _ _ at hR
  have h1 := h.move (w' := w.alloc (.cells #[.int .u32 s, .int .u32 g] 41)) (fun q _ hq => hA.block q hq) hA.size
  obtain ⟨A, c, rfl, hc⟩ := h1
  obtain ⟨n, hn⟩ : ∃ n, T.length = n := ⟨_, rfl⟩
  rw [hn] at hT ⊢
  have HN := Lib.hid hn
  have HC := Lib.hid hc
  have HA := Lib.hid hA
  have r0 := hR.cell 0
  have r1 := hR.cell 1
  dsimp only [List.getElem?_cons_zero, List.getElem?_cons_succ] at r0 r1
  clear h hA hR hc hn
  go_enter Try.func17, Try.ntmps17
  go_wp2_with fail
  generalize w.alloc (.cells #[.int .u32 s, .int .u32 g] 41) = w1 at *
  go_loopw [5, 6] (fun u x wr => ∃ j d : Nat, j ≤ n ∧ x = .int .i64 j ∧ u = .int .i64 (hasN (T.take j) s g : Nat) ∧ wr = w1.drewN d) (fun _ x _ => n - (intOf x).toNat)
  case atStart => exact ⟨0, 0, by omega, rfl, rfl, rfl⟩
  case round =>
    obtain ⟨j, d, hj, rfl, rfl, hwr⟩ := hrel
    have j0 : (0 : Int) ≤ (j : Int) := by omega
    have HN2 : Hid (∀ e, wr.drewN e = w1.drewN (d + e)) := Lib.hid fun e => by rw [hwr, World.drewN_drewN]
    by_cases hjn : j < n
    · have d0 : decide ((j : Int) < (n : Int)) = true := decide_eq_true (by omega)
      obtain ⟨r, hr⟩ : ∃ r, T[j]? = some r := ⟨_, List.getElem?_eq_getElem (by rw [HN.out]; exact hjn)⟩
      obtain ⟨gb, hA', _, hcell⟩ := HC.out j r hr
      have a0 := hcell 0 (by omega)
      have a1 := hcell 1 (by omega)
      have a0 : wr.cell? ⟨gb, j * 11 + 0, none⟩ = some (.int .u32 r.ms) := by rw [hwr]; exact a0
      have a1 : wr.cell? ⟨gb, j * 11 + 1, none⟩ = some (.int .u32 r.mg) := by rw [hwr]; exact a1
      rw [Nat.add_zero] at a0
      have r0 : wr.cell? ⟨w.heap.size, 0, none⟩ = some (.int .u32 s) := by rw [hwr]; exact r0
      have r1 : wr.cell? ⟨w.heap.size, 1, none⟩ = some (.int .u32 g) := by rw [hwr]; exact r1
      have HH := Lib.hid (hasN_take (s := s) (g := g) hr)
      have hle : hasN (T.take j) s g ≤ 100000 := Nat.le_trans (hasN_le _ _ _) (Nat.le_trans (List.length_take_le' _ _) (by rw [HN.out]; exact hT))
      have e1 := fun w => run_eql_handle r.ms r.mg s g w
      subst hA'
      cases hs : sameH r.ms r.mg s g with
      | false =>
        rw [hs] at e1 HH
        simp only [Bool.false_eq_true, if_false, Nat.add_zero] at HH
        clear hwr hr hcell hs
        go_wp2_with fail
        go_quiet (fail)
        go_wp2_with fail
        go_roundw
        case rel => exact ⟨j + 1, _, by omega, by go_num, by rw [HH.out], HN2.out _⟩
        case measure => simp [intOf] <;> omega
      | true =>
        rw [hs] at e1 HH
        simp only [if_true] at HH
        clear hwr hr hcell hs
        go_wp2_with fail
        go_quiet (fail)
        go_wp2_with fail
        go_roundw
        case rel => exact ⟨j + 1, _, by omega, by go_num, by rw [HH.out]; go_num, HN2.out _⟩
        case measure => simp [intOf] <;> omega
    · have d0 : decide ((j : Int) < (n : Int)) = false := decide_eq_false (by omega)
      have HT : Hid (T.take j = T) := Lib.hid (List.take_of_length_le (by rw [HN.out]; omega))
      have HB : Hid (Below w.heap.size w wr) := Lib.hid (by rw [hwr]; exact below_drewN HA.out d)
      clear hwr
      go_wp2_with fail
      go_ret
      exact ⟨by rw [HT.out]; rfl, HB.out⟩
end Go.Proofs.Ytgndpodeedjohaa
