/-
  Sorting waits by their numbers.
-/
import Derived.Test.YtkdiibgjkipdnaaWqR
import Derived.Test.YtkdiibgjkipdnaaSortP
import Derived.Lib.OwnBridge
import Derived.Lib.AppendIntMem
namespace Go.Proofs.Ytkdiibgjkipdnaa
open Go.RowKit Go.Maps Go.Sort Go.Shelf
set_option linter.unusedSimpArgs false

/-- the waits' numbers, as the program holds them -/
theorem cmp_c (a b : Nat) (sa sb : Int) (w : World) (ha : w.cell? ⟨a, 11, none⟩ = some (.int .i64 sa)) (hb : w.cell? ⟨b, 11, none⟩ = some (.int .i64 sb)) (h1 : 0 ≤ sa ∧ sa ≤ 100000) (h2 : 0 ≤ sb ∧ sb ≤ 100000) :
    Calls Try.prog 31 #[.pointer (some ⟨a, 0, none⟩), .pointer (some ⟨b, 0, none⟩)] w fun e w' => e = .returned (.int .i64 (sa - sb)) ∧ ∃ q, w' = w.drewN q := by
  go_enter Try.func31, Try.ntmps31
  go_wp2_with fail
  go_quiet (fail)
  go_wp2_with fail
  go_ret
  exact ⟨rfl, _, rfl⟩
def ptN (x : Nd) : Value := .pointer (some ⟨x.blk, 0, none⟩)
theorem sorted_one {α : Type} {f : α → Int} : ∀ {l m : List α}, l.Pairwise (fun x y => f x ≤ f y) → m.Pairwise (fun x y => f x < f y) → l.Perm m → l = m
  | [], m, _, _, hp => by rw [List.nil_perm.1 hp]
  | x :: l, [], _, _, hp => by cases List.perm_nil.1 hp
  | x :: l, y :: m, hl, hm, hp => by
    rw [List.pairwise_cons] at hl hm
    have e : x = y := by
      have h1 : x ∈ y :: m := hp.subset List.mem_cons_self
      have h2 : y ∈ x :: l := hp.symm.subset List.mem_cons_self
      rcases List.mem_cons.1 h1 with e | e
      · exact e
      · rcases List.mem_cons.1 h2 with e2 | e2
        · exact e2.symm
        · have := hl.1 y e2
          have := hm.1 x e
          omega
    subst e
    rw [sorted_one hl.2 hm.2 (List.perm_cons x |>.1 hp)]
set_option maxHeartbeats 2000000 in
theorem sort_c (N L : List Nd) (hN : N.Pairwise fun x y => x.ser < y.ser) (hL : L.Perm N) (B0 : Nat) (v : Value) (w : World)
    (hown : w.ownsRow B0 92 1 v L.length (L.map ptN)) (hnode : ∀ x ∈ N, w.cell? ⟨x.blk, 11, none⟩ = some (.int .i64 x.ser) ∧ (0 ≤ x.ser ∧ x.ser ≤ 100000) ∧ x.blk < B0) (hlen : L.length ≤ 100000) :
    Calls Try.prog 30 #[v, .func (.func 31) #[] #[]] w fun e w' =>
      e = .returned (.tuple #[]) ∧ w'.ownsRow B0 92 1 v N.length (N.map ptN) ∧ Go.RowKit.Below B0 w w' := by
  by_cases h0 : L = []
  · subst h0
    have : N = [] := List.nil_perm.1 hL
    subst this
    obtain ⟨A, c, hv, _⟩ := own_form hown
    rw [hv]
    refine (AnyF.slices_SortFunc_none (P := Try.prog) (ρ := Try.sortw_ren) { Try.sortw with } A c _ w).mono ?_
    rintro e w' ⟨rfl, rfl⟩
    exact ⟨rfl, hv ▸ hown, Go.RowKit.Below.refl _ _⟩
  · obtain ⟨x0, hx0⟩ := List.exists_mem_of_ne_nil L h0
    let α := {x : Nd // x ∈ N}
    haveI : Inhabited α := ⟨⟨x0, hL.subset hx0⟩⟩
    let enc : α → Value := fun x => ptN x.1
    let cf : α → α → Int := fun x y => x.1.ser - y.1.ser
    let d : List α := L.attach.map fun x => ⟨x.1, hL.subset x.2⟩
    have hd : d.map (·.1) = L := by simp [d]
    have hde : d.map enc = L.map ptN := by
      have e : ∀ q : List α, q.map enc = (q.map (·.1)).map ptN := fun q => by rw [List.map_map]; rfl
      rw [e d, hd]
    have hdl : d.length = L.length := by have := congrArg List.length hd; simpa using this
    rw [← hde] at hown
    have hvn : v ≠ .slice none 0 0 := fun e => by
      obtain ⟨A, c, hv, _⟩ := own_form hown
      rw [e] at hv
      injection hv with _ e2 _
      exact h0 (List.length_eq_zero_iff.1 e2.symm)
    obtain ⟨g, cap, rfl, hB, hg, _, _, hzl, hH⟩ := Go.Lib.holds_of_ownsRow hown hvn
    have hsz : d.toArray.size = L.length := by simp [hdl]
    have hsw : ∀ m os (dk : Array α) (x : Nd), x ∈ N → (sortWorld enc w g 0 m dk os).cell? ⟨x.blk, 11, none⟩ = some (.int .i64 x.ser) := fun m os dk x hx => by
      obtain ⟨h1, _, h3⟩ := hnode x hx
      have hb := Go.Lib.below_putRow (q := m) (d := dk) (enc := enc) (Go.RowKit.Below.refl B0 w) hB
      have hlt : x.blk < w.heap.size := by omega
      unfold sortWorld
      rw [Go.Sort.cell?_grow _ _ _ (Nat.lt_of_lt_of_le hlt hb.size)]
      rw [World.cell?_of_block (hb.block x.blk h3)]
      exact h1
    have hlt : ∀ x y : α, ltOf cf x y = decide (x.1.ser < y.1.ser) := fun x y => by
      unfold ltOf
      by_cases e : x.1.ser < y.1.ser
      · rw [decide_eq_true e, decide_eq_true (show x.1.ser - y.1.ser < 0 by omega)]
      · rw [decide_eq_false e, decide_eq_false (show ¬ x.1.ser - y.1.ser < 0 by omega)]
    have hO : SWO (ltOf cf) := ⟨fun x => by rw [hlt]; simp, fun x y z h1 h2 => by rw [hlt] at *; simp at *; omega, fun x y z h1 h2 => by rw [hlt] at *; simp at *; omega⟩
    have key := Any.slices_SortFunc Try.sortw enc (fun _ => rfl) cf hO 31 #[] g 0 cap d.toArray w (fun args w => by kernel_rfl) (CmpReads.lays fun m os dk _ x y => cmp_c x.1.blk y.1.blk x.1.ser y.1.ser _ (hsw m os dk x.1 x.2) (hsw m os dk y.1 y.2) (hnode x.1 x.2).2.1 (hnode y.1 y.2).2.1) hH hg (by rw [hsz]; omega)
    rw [hsz] at key
    refine key.mono ?_
    rintro e w' ⟨rfl, d', n, os, hp, hs, rfl⟩
    have hpl : d'.toList.Perm d := by
      have := hp.2.2
      have e1 : d'.extract 0 L.length = d' := by rw [← hsz, ← hp.1]; simp
      have e2 : d.toArray.extract 0 L.length = d.toArray := by rw [← hsz]; simp
      rw [e1, e2] at this
      simpa using this
    have hS : (d'.toList.map (·.1)) = N := by
      refine sorted_one (f := fun x : Nd => x.ser) ?_ hN (((hpl.map (·.1)).trans (by rw [hd])).trans hL)
      rw [List.pairwise_map, List.pairwise_iff_getElem]
      intro i j hi hj hij
      have hi' : i < d'.size := by simpa using hi
      have hj' : j < d'.size := by simpa using hj
      have := hs i j (Nat.zero_le _) hij (by rw [← hsz, ← hp.1]; exact hj')
      rw [hlt, getElem!_pos d' j hj', getElem!_pos d' i hi'] at this
      simp only [Array.getElem_toList]
      have := of_decide_eq_false this
      omega
    have hnl : L.length = N.length := hL.length_eq
    have hdl' : d'.toList.length = L.length := by rw [hpl.length_eq, hdl]
    have e3 : d'.toList.map enc = N.map ptN := by
      have e : ∀ q : List α, q.map enc = (q.map (·.1)).map ptN := fun q => by rw [List.map_map]; rfl
      rw [e d'.toList, hS]
    refine ⟨rfl, ?_, ?_⟩
    · have h1 := Go.Lib.ownsRow_putRow (q := n) hown hdl' (Nat.le_refl _)
      rw [List.take_of_length_le (by omega), e3] at h1
      rw [hnl] at h1 ⊢
      have h2 := Go.Lib.ownsRow_grow h1 0 os
      rw [World.drewN_zero] at h2
      exact h2
    · have h1 := Go.Lib.below_putRow (q := n) (d := d') (enc := enc) (Go.RowKit.Below.refl B0 w) hB
      have h2 := Go.Lib.below_grow B0 (putRow enc (Sort.ahead w n) g 0 d') (Nat.le_trans (Nat.le_trans hB (Nat.le_of_lt hg)) h1.size) 0 os
      rw [World.drewN_zero] at h2
      exact h1.trans h2
end Go.Proofs.Ytkdiibgjkipdnaa
