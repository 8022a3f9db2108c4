/-
  lots.New: a schedule of its own.
-/
import Derived.Test.YtplejggfeehbcaaLotC
namespace Go.Proofs.Ytplejggfeehbcaa
open Go.RowKit
set_option linter.unusedSimpArgs false

@[go_sem] theorem run_store_func {P : Program} {w : World} {a : Addr} {m : Mode} (f : Fn) (x y : Array Value) : (store a (.func f x y) m).run P w = stored P w a (.func f x y) m := run_store P w a _ m rfl

/-- a schedule in memory, of which u are used -/
structure SchedAt (w : World) (b bo bm : Nat) (M : Option Addr) (c : Nat) (rs : List Raw) (L : List Lot) (u : Nat) : Prop where
  obj : Row w b 106 [.int .i64 (L.length : Nat), .int .i64 u, .func (Fn.func 101) #[] #[.pointer (some ⟨bo, 0, none⟩), .pointer (some ⟨bm, 0, none⟩)]]
  out : Row w bo 57 [.pointer (some ⟨b, 0, none⟩)]
  mine : Row w bm 56 [.slice M L.length c]
  cells : Cs w M (rawCells rs)
  lots : Lts w (· ≠ b) rs L
  far : ∀ ad, M = some ad → ∃ g, ad = ⟨g, 0, none⟩ ∧ g ≠ b
  no : bo ≠ b
  nm : bm ≠ b
  used : u ≤ L.length
  small : L.length * 32 ≤ 140737488351232
def Sched (w : World) (b : Nat) (L : List Lot) (u : Nat) : Prop := ∃ (bo bm : Nat) (M : Option Addr) (c : Nat) (rs : List Raw), SchedAt w b bo bm M c rs L u

theorem Row.kept {w w' : World} {x b e : Nat} {vs : List Value} (h : Row w x e vs) (hg : w.grownBy w' (some b)) (hx : x ≠ b) : Row w' x e vs := (hg.block x h.lt (by simpa using hx)).trans h
theorem Cs.kept {w w' : World} {M : Option Addr} {vs : List Value} {b : Nat} (h : Cs w M vs) (hg : w.grownBy w' (some b)) (hM : ∀ ad, M = some ad → ad.block ≠ b) : Cs w' M vs := fun h0 => by
  obtain ⟨ad, e, hc⟩ := h h0
  refine ⟨ad, e, fun j hj => ?_⟩
  have h1 := hc j hj
  rw [List.getElem?_eq_getElem hj] at h1 ⊢
  exact hg.cell h1 (by rw [add_block]; simpa using hM ad e)
theorem SchedAt.turn {w w' : World} {b bo bm c u u' : Nat} {M : Option Addr} {rs : List Raw} {L : List Lot} (h : SchedAt w b bo bm M c rs L u) (hg : w.grownBy w' (some b)) (hu : u' ≤ L.length)
    (hr : Row w' b 106 [.int .i64 (L.length : Nat), .int .i64 u', .func (Fn.func 101) #[] #[.pointer (some ⟨bo, 0, none⟩), .pointer (some ⟨bm, 0, none⟩)]]) : SchedAt w' b bo bm M c rs L u' :=
  ⟨hr, h.out.kept hg h.no, h.mine.kept hg h.nm, h.cells.kept hg (fun ad e => by obtain ⟨g, e1, e2⟩ := h.far ad e; rw [e1]; exact e2), h.lots.grown hg (fun hh => hh rfl), h.far, h.no, h.nm, hu, h.small⟩
theorem SchedAt.below {w w' : World} {b bo bm c u : Nat} {M : Option Addr} {rs : List Raw} {L : List Lot} (h : SchedAt w b bo bm M c rs L u) (hb : Below w.heap.size w w') : SchedAt w' b bo bm M c rs L u :=
  ⟨h.obj.grown hb, h.out.grown hb, h.mine.grown hb, h.cells.below hb, h.lots.below hb, h.far, h.no, h.nm, h.used, h.small⟩
theorem Sched.below {w w' : World} {b u : Nat} {L : List Lot} (h : Sched w b L u) (hb : Below w.heap.size w w') : Sched w' b L u := by
  obtain ⟨bo, bm, M, c, rs, h⟩ := h
  exact ⟨bo, bm, M, c, rs, h.below hb⟩

set_option maxHeartbeats 2000000 in
set_option maxRecDepth 100000 in
theorem new_c (M : Option Addr) (n c : Nat) (rs : List Raw) (L : List Lot) (w : World) (h : Cs w M (rawCells rs)) (hL : Lts w (fun _ => True) rs L) (hl : L.length = n) (hM : M = none → n = 0 ∧ c = 0) (hn : n * 32 ≤ 140737488351232) :
    Calls Try.prog 63 #[.slice M n c] w fun e w' => ∃ b, e = .returned (.pointer (some ⟨b, 0, none⟩)) ∧ w.heap.size ≤ b ∧ Sched w' b L 0 ∧ Below w.heap.size w w' := by
  have C := Lib.hid (clone_lots h (hL.len.trans hl) hM hn)
  have HLL := Lib.hid hL
  have HN := Lib.hid hl
  have HRL := Lib.hid (hL.len.trans hl)
  have hn2 : n ≤ 4398046511104 := by omega
  clear h hM hL hl
  go_enter Try.func63, Try.ntmps63
  go_wp2_with (go_at_call 100; refine C.out.mono ?_; rintro e w1 ⟨A, cap, G, rest, rfl, hA, hb⟩; have HA := Lib.hid hA; have HB := Lib.hid hb; clear hA hb)
  have HR2 := Lib.hid (Row.new w1 56 [.slice A n cap])
  go_loopw [10] (fun i wr => ∃ (j : Nat) (rs1 : List Raw), j ≤ n ∧ i = .int .i64 j ∧ rs1.length = j ∧ (A = some ⟨G, 0, none⟩ → Row wr G 52 (rawCells (rs1 ++ rs.drop j) ++ rest)) ∧ Lts wr (fun b => b < wr.heap.size ∧ b ≠ G ∧ b ≠ w1.heap.size) rs1 (L.take j) ∧ Row wr w1.heap.size 56 [.slice A n cap] ∧ Below w.heap.size w wr ∧ w1.heap.size < wr.heap.size) (fun i _ => n - (intOf i).toNat)
  case atStart =>
    refine ⟨0, [], by omega, rfl, rfl, ?_, Lts.nil _ _, HR2.out, HB.out.alloc HB.out.size _, ?_⟩
    · intro e
      rcases HA.out with ⟨e1, _⟩ | ⟨_, _, hr⟩
      · rw [e1] at e; cases e
      · exact hr.alloc _
    · show w1.heap.size < (w1.heap.push _).size
      rw [Array.size_push]; omega
  case round =>
    obtain ⟨j, rs1, hj, rfl, hrl, hRG, hLt, hRm, hB, hsz⟩ := hrel
    by_cases hlt : j < n
    · have hAs : A = some ⟨G, 0, none⟩ ∧ w.heap.size ≤ G := by
        rcases HA.out with ⟨_, e2⟩ | ⟨e1, e2, _⟩
        · omega
        · exact ⟨e1, e2⟩
      obtain ⟨hAs, hGb⟩ := hAs
      subst hAs
      have hRG := hRG rfl
      obtain ⟨r, hr⟩ : ∃ r, rs[j]? = some r := ⟨_, List.getElem?_eq_getElem (by rw [HRL.out]; exact hlt)⟩
      obtain ⟨l, hl⟩ : ∃ l, L[j]? = some l := ⟨_, List.getElem?_eq_getElem (by rw [HN.out]; exact hlt)⟩
      have hdrop : rs.drop j = r :: rs.drop (j + 1) := by
        have := (List.getElem?_eq_some_iff.1 hr)
        obtain ⟨h1, h2⟩ := this
        rw [List.drop_eq_getElem_cons h1, h2]
      rw [hdrop] at hRG
      have hP := HLL.out.p j r l hr hl
      obtain ⟨hFr, hkc, hAk, hkk, _⟩ := HLL.out.ws j r l hr hl
      have cm : wr.cell? ⟨w1.heap.size, 0, none⟩ = some (.slice (some ⟨G, 0, none⟩) n cap) := by rw [hRm.cell]; rfl
      have cs : wr.cell? ⟨G, j * 2 + 1, none⟩ = some (.slice r.A r.k r.c) := by
        rw [hRG.cell, List.getElem?_append_left (by rw [rawCells_len, List.length_append, List.length_cons]; omega)]
        have := rawCells_s (rs1 ++ r :: rs.drop (j + 1)) j r (by rw [List.getElem?_append_right (by omega), hrl, Nat.sub_self]; rfl)
        rw [Nat.mul_comm] at this
        exact this
      have fs := hRG.frozen (j * 2 + 1)
      have hG : G < wr.heap.size := hRG.lt
      have HGN : Hid (G < w1.heap.size) := Lib.hid (by
        rcases HA.out with ⟨e1, _⟩ | ⟨_, _, hr0⟩
        · cases e1
        · exact hr0.lt)
      have HRG := Lib.hid hRG
      have HLt := Lib.hid hLt
      have HRm := Lib.hid hRm
      have HBr := Lib.hid hB
      have HP := Lib.hid hP
      have HFr := Lib.hid (hFr.below hB)
      have HRL1 := Lib.hid hrl
      have CC := Lib.hid (clone_fs (w := wr.drew) (hFr.below hB.drew) hAk hkk)
      clear hRG hLt hRm hB hP hFr hdrop hrl hAk
      go_wp2_with fail
      go_region_law (first | (go_simp; go_at_call 99; refine CC.out.mono ?_; rintro e w4 ⟨A3, c3, rfl, hc3⟩; have HC3 := Lib.hid hc3; have hb4 : Below wr.heap.size wr w4 := Below.trans (Below.refl _ wr).drew hc3.2.2.2.2; have cm4 := (hb4.cell (p := ⟨w1.heap.size, 0, none⟩) hsz).trans cm; have cs4 := (hb4.cell (p := ⟨G, j * 2 + 1, none⟩) hG).trans cs; have fs4 := (hb4.frozen (p := ⟨G, j * 2 + 1, none⟩) hG).trans fs; have HB4 := Lib.hid hb4; clear hc3 hb4))
      all_goals (
        go_wp2
        go_roundw
        case rel =>
          obtain ⟨hF3, hkc3, hA3, hb3, hbl3⟩ := HC3.out
          have hLt4 := (HLt.out.below HB4.out)
          refine ⟨j + 1, rs1 ++ [⟨r.p, A3, r.k, c3⟩], by omega, by go_num, by rw [List.length_append, HRL1.out]; rfl, fun _ => ?_, ?_, ?_, ?_, ?_⟩
          · have h1 := (HRG.out.grown HB4.out).set (2 * rs1.length + 1) (Raw.sl ⟨r.p, A3, r.k, c3⟩)
            rw [rawCells_set rs1 (rs.drop (j + 1)) r ⟨r.p, A3, r.k, c3⟩ rfl] at h1
            rw [List.append_assoc, List.singleton_append]
            have e : 2 * rs1.length + 1 = j * 2 + 1 := by rw [HRL1.out]; omega
            rw [e] at h1
            exact h1
          · have e : L.take (j + 1) = L.take j ++ [l] := by rw [List.take_add_one, hl]; rfl
            rw [e]
            have h2 : Lts (w4.setCell ⟨G, j * 2 + 1, none⟩ (.slice A3 r.k c3)) (fun b => b < w4.heap.size ∧ b ≠ G ∧ b ≠ w1.heap.size) rs1 (L.take j) :=
              (hLt4.weaken (fun k hk => ⟨by have := HB4.out.size; omega, hk.2⟩)).set_far _ _ (fun hk => hk.2.1 rfl)
            have e2 : (w4.setCell ⟨G, j * 2 + 1, none⟩ (.slice A3 r.k c3)).heap.size = w4.heap.size := by simp [World.setCell]
            rw [e2]
            refine h2.snoc _ l HP.out ⟨hF3.set_far _ _ (fun ad he => by have := (hb3 ad he).1; show ad.block ≠ G; have : wr.drew.heap.size = wr.heap.size := rfl; omega), hkc3, hA3, hkk, fun ad he => ?_⟩
            have := hb3 ad he
            have h6 : wr.drew.heap.size = wr.heap.size := rfl
            exact ⟨this.2, by omega, by omega⟩
          · exact (HRm.out.grown HB4.out).far (by show w1.heap.size ≠ G; have := HBr.out; have := HGN.out; omega) _
          · exact (HBr.out.trans (HB4.out.mono HBr.out.size)).setCell (p := ⟨G, j * 2 + 1, none⟩) hGb _
          · have := HB4.out.size
            simp only [World.setCell, Array.size_modify]
            omega
        case measure => simp [intOf]; omega)
    · have hjn : j = n := by omega
      have cm : wr.cell? ⟨w1.heap.size, 0, none⟩ = some (.slice A n cap) := by rw [hRm.cell]; rfl
      have HRG := Lib.hid hRG
      have HLt := Lib.hid hLt
      have HRm := Lib.hid hRm
      have HBr := Lib.hid hB
      have HRL1 := Lib.hid hrl
      clear hRG hLt hRm hB hrl hlt hj
      subst hjn
      go_wp2
      go_ret
      have hs1 : ∀ o : Obj, (wr.alloc o).heap.size = wr.heap.size + 1 := fun o => by show (wr.heap.push o).size = _; rw [Array.size_push]
      refine ⟨wr.heap.size, rfl, HBr.out.size, ?_, (HBr.out.alloc HBr.out.size _).alloc (by rw [hs1]; have := HBr.out.size; omega) _⟩
      have hLt : Lts wr (fun b => b < wr.heap.size ∧ b ≠ G ∧ b ≠ w1.heap.size) rs1 L := by
        have := HLt.out
        rwa [List.take_of_length_le (by rw [HN.out]; omega)] at this
      have hdr : rs.drop j = [] := List.drop_of_length_le (by rw [HRL.out]; omega)
      refine ⟨wr.heap.size + 1, w1.heap.size, A, cap, rs1, ?_, ?_, ?_, ?_, ?_, ?_, by omega, by omega, by omega, by rw [HN.out]; omega⟩
      · rw [HN.out]
        exact (Row.new wr _ [_, _, _]).alloc _
      · have := Row.new (wr.alloc (.cells #[.int .i64 j, .int .i64 0, .func (Fn.func 101) #[] #[.pointer (some ⟨wr.heap.size + 1, 0, none⟩), .pointer (some ⟨w1.heap.size, 0, none⟩)]] 106)) 57 [.pointer (some ⟨wr.heap.size, 0, none⟩)]
        rw [hs1] at this
        exact this
      · rw [HN.out]
        exact (HRm.out.alloc _).alloc _
      · intro h0
        rw [rawCells_len, HRL1.out] at h0
        rcases HA.out with ⟨_, e2⟩ | ⟨e1, _, _⟩
        · omega
        · refine ⟨_, e1, fun q hq => ?_⟩
          have hr := HRG.out e1
          rw [hdr, List.append_nil] at hr
          rw [add_zero, ((hr.alloc _).alloc _).cell, List.getElem?_append_left hq]
      · exact ((hLt.weaken (fun k hk => by omega)).below ((Below.refl _ _).alloc (Nat.le_refl _) _)).below ((Below.refl _ _).alloc (Nat.le_refl _) _)
      · intro ad he
        rcases HA.out with ⟨e1, _⟩ | ⟨e1, _, hr0⟩
        · rw [e1] at he; cases he
        · rw [e1] at he
          cases he
          have := (HRG.out e1).lt
          exact ⟨G, rfl, by omega⟩
end Go.Proofs.Ytplejggfeehbcaa
