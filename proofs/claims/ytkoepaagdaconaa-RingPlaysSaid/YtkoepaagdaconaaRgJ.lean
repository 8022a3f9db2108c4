/-
  Helpers for loops over All: what the loop's own variables hold.
-/
import Derived.Test.YtkoepaagdaconaaRgH
import Derived.Test.YtkoepaagdaconaaRgF
import Derived.Deep.AppendLies
namespace Go.Proofs.Ytkoepaagdaconaa
open Go.RowKit Go.Shelf
set_option linter.unusedSimpArgs false

theorem But.others {S : Nat → Prop} {w w' : World} (h : But S w w') (hS : ∀ k, S k → ∃ e vs, Row w k e vs) : KeepsOthers w w' := ⟨h.size, fun k o hk ho => by
  refine (h.block k (Array.getElem?_eq_some_iff.1 hk).1 (fun hs => ?_)).trans hk
  obtain ⟨_, _, hr⟩ := hS k hs
  unfold Row at hr
  rw [hk] at hr
  cases hr
  cases ho⟩
theorem But.keeps {S : Nat → Prop} {w w' : World} (h : But S w w') : KeptBut S w w' := fun k _ _ hr hs => (h.block k hr.lt hs).trans hr

/-- what speaks of cells alone -/
theorem ring_own {β : Type} (T E b g n : Nat) (f : β → List Value) : Own (fun (s : β) W => Ring W T E b g n (f s)) := fun s A B row hs hg hr => by
  obtain ⟨p, vs, h⟩ := hs
  exact ⟨p, vs, row_own b T (fun _ : β => _) s A B row h.obj hg hr, row_own g E (fun _ : β => _) s A B row h.room hg hr, h.len, h.few, h.first, h.at_, h.ne⟩
theorem own_and {β : Type} {P Q : β → World → Prop} (h : Own P) (k : Own Q) : Own (fun s W => P s W ∧ Q s W) := fun s A B row hs hg hr => ⟨h s A B row hs.1 hg hr, k s A B row hs.2 hg hr⟩
theorem own_ex {β γ : Type} {P : γ → β → World → Prop} (h : ∀ x, Own (P x)) : Own (fun s W => ∃ x, P x s W) := fun s A B row ⟨x, hs⟩ hg hr => ⟨x, h x s A B row hs hg hr⟩

def ints (xs : List Int) : List Value := xs.map (Value.int .i64)
theorem ints_len (xs : List Int) : (ints xs).length = xs.length := by simp [ints]
theorem ints_get (xs : List Int) (j : Nat) (h : j < xs.length) : (ints xs)[j]? = some (.int .i64 (xs.getD j 0)) := by
  simp [ints, List.getElem?_eq_getElem h, List.getD_eq_getElem?_getD]

/-- a slice of numbers of the law's own -/
def Th (w : World) (base top : Nat) (v : Value) (xs : List Int) : Prop := v = .slice none 0 0 ∧ xs = [] ∨ ∃ g cap rest, v = .slice (some ⟨g, 0, none⟩) xs.length cap ∧ (base ≤ g ∧ g < top) ∧ Row w g 3 (ints xs ++ rest)
theorem th_own {β : Type} (base top : Nat) (v : Value) (xs : List Int) : Own (fun (_ : β) W => Th W base top v xs) := fun s A B row hs hg hr => by
  rcases hs with h | ⟨g, cap, rest, h1, h2, h3⟩
  · exact .inl h
  · exact .inr ⟨g, cap, rest, h1, h2, row_own g _ (fun _ : β => _) s A B row h3 hg hr⟩
theorem th_of_owns {w : World} {base : Nat} {v : Value} {xs : List Int} {n : Nat} (h : w.ownsRow base 3 1 v n (ints xs)) (hn : n = xs.length) : Th w base w.heap.size v xs := by
  subst hn
  rcases h.2 with ⟨e1, e2⟩ | ⟨g, cap, cur, e1, hg, hh, hnc, hk1, hk2, htake⟩
  · exact .inl ⟨e1, List.eq_nil_of_length_eq_zero e2⟩
  · refine .inr ⟨g, cap, cur.toList.drop (xs.length * 1), e1, ⟨hg, (Array.getElem?_eq_some_iff.1 hh).1⟩, ?_⟩
    unfold Row
    rw [hh, ← htake, List.take_append_drop]
theorem Th.but {S : Nat → Prop} {w w' : World} {base top : Nat} {v : Value} {xs : List Int} (h : Th w base top v xs) (hb : But S w w') (hs : ∀ g, base ≤ g → g < top → ¬ S g) : Th w' base top v xs := by
  rcases h with h | ⟨g, cap, rest, h1, h2, h3⟩
  · exact .inl h
  · exact .inr ⟨g, cap, rest, h1, h2, hb.row h3 (hs g h2.1 h2.2)⟩
theorem Th.weaken {w : World} {base top top' : Nat} {v : Value} {xs : List Int} (h : Th w base top v xs) (ht : top ≤ top') : Th w base top' v xs := by
  rcases h with h | ⟨g, cap, rest, h1, h2, h3⟩
  · exact .inl h
  · exact .inr ⟨g, cap, rest, h1, ⟨h2.1, by omega⟩, h3⟩

/-- are these the first ones of xs? -/
def okV (xs pre : List Int) : Bool := (List.range pre.length).all fun i => decide (i < xs.length) && (pre.getD i 0 == xs.getD i 0)
theorem okV_nil (xs : List Int) : okV xs [] = true := rfl
theorem okV_snoc (xs pre : List Int) (x : Int) : okV xs (pre ++ [x]) = (okV xs pre && (decide (pre.length < xs.length) && (x == xs.getD pre.length 0))) := by
  unfold okV
  rw [List.length_append, List.length_singleton, List.range_succ, List.all_append]
  congr 1
  · rw [Bool.eq_iff_iff, List.all_eq_true, List.all_eq_true]
    constructor
    · intro h i hi
      have h2 := List.mem_range.1 hi
      have := h i hi
      rwa [List.getD_eq_getElem?_getD, List.getElem?_append_left h2, ← List.getD_eq_getElem?_getD] at this
    · intro h i hi
      have h2 := List.mem_range.1 hi
      have := h i hi
      rwa [List.getD_eq_getElem?_getD (l := pre ++ [x]), List.getElem?_append_left h2, ← List.getD_eq_getElem?_getD]
  · simp [List.getD_eq_getElem?_getD]
theorem okV_self (xs : List Int) : okV xs xs = true := by
  unfold okV
  rw [List.all_eq_true]
  intro i hi
  simp [List.mem_range.1 hi]

def TakeAny (b g n : Nat) (w : World) (e : Ending) (w' : World) : Prop := (∃ x y, e = .returned (.tuple #[.int .i64 x, .int .i64 y])) ∧ (∃ q, Ring w' 64 3 b g n (ints q)) ∧ But (fun k => k = b ∨ k = g) w w'
theorem take_any (b g n : Nat) (q : List Int) (w : World) (h : Ring w 64 3 b g n (ints q)) (hn : n ≤ 100) : Calls Try.prog 16 #[.pointer (some ⟨b, 0, none⟩)] w (TakeAny b g n w) := by
  match q with
  | [] => exact (RI.takeEmpty_c b g n w h).mono fun e w' ⟨he, hw⟩ => ⟨⟨_, _, he⟩, ⟨[], hw ▸ h⟩, hw ▸ But.refl _ _⟩
  | x :: q => exact (RI.take_c b g n (ints q) x w h hn).mono fun e w' ⟨he, hr, hb⟩ => ⟨⟨_, _, he⟩, ⟨q, hr⟩, hb⟩
def PutAny (b g n : Nat) (w : World) (e : Ending) (w' : World) : Prop := (∃ y, e = .returned (.int .i64 y)) ∧ (∃ q, Ring w' 64 3 b g n (ints q)) ∧ But (fun k => k = b ∨ k = g) w w'
theorem put_any (b g n : Nat) (q : List Int) (x : Int) (w : World) (h : Ring w 64 3 b g n (ints q)) (hn : n ≤ 100) : Calls Try.prog 14 #[.pointer (some ⟨b, 0, none⟩), .int .i64 x] w (PutAny b g n w) := by
  by_cases hf : q.length < n
  · refine (RI.put_c b g n (ints q) x w h hn (by rw [ints_len]; exact hf)).mono fun e w' ⟨he, hr, hb⟩ => ⟨⟨_, he⟩, ⟨q ++ [x], ?_⟩, hb⟩
    unfold ints at *
    rw [List.map_append]
    exact hr
  · have h1 := h.few
    rw [ints_len] at h1
    refine (RI.putFull_c b g n (ints q) x w h (by rw [ints_len]; omega)).mono ?_
    rintro e w' ⟨he, d, rfl⟩
    exact ⟨⟨_, he⟩, ⟨q, h.drewN d⟩, (But.refl _ _).drewN d⟩
theorem owns_form {w : World} {base e n : Nat} {v : Value} {xs : List Value} (h : w.ownsRow base e 1 v n xs) : ∃ A c, v = .slice A n c := by
  rcases h.2 with ⟨e1, e2⟩ | ⟨g, cap, cur, e1, _⟩
  · exact ⟨none, 0, by rw [e1, e2]⟩
  · exact ⟨_, _, e1⟩
theorem But.owns {S : Nat → Prop} {w w' : World} {base e n : Nat} {v : Value} {xs : List Value} (hb : But S w w') (h : w.ownsRow base e 1 v n xs) (hs : ∀ k, base ≤ k → ¬ S k) : w'.ownsRow base e 1 v n xs := by
  refine ⟨h.1, ?_⟩
  rcases h.2 with h | ⟨g, cap, cur, e1, hg, hh, rest⟩
  · exact .inl h
  · exact .inr ⟨g, cap, cur, e1, hg, (hb.block g (Array.getElem?_eq_some_iff.1 hh).1 (hs g hg)).trans hh, rest⟩
theorem ints_snoc (xs : List Int) (x : Int) : ints xs ++ [.int .i64 x] = ints (xs ++ [x]) := by simp [ints]
theorem take_snoc {xs : List Int} {t : Nat} (h : t < xs.length) : xs.take (t + 1) = xs.take t ++ [xs.getD t 0] := by
  rw [List.take_add_one, List.getElem?_eq_getElem h, List.getD_eq_getElem?_getD, List.getElem?_eq_getElem h]; rfl
/-- between two rounds of RingSeen's range -/
def SeenI (n b g bn bk br bo : Nat) (outs : Int) (A2 : Option Addr) (k2 c2 : Nat) (At : Option Addr) (t ct : Nat) (xs : List Int) (pre : List Int) (W : World) : Prop :=
  Row W bn 3 [.int .i64 (pre.length : Nat)] ∧ Row W bk 4 [.bool (okV xs pre)] ∧ (∃ q, Ring W 64 3 b g n (ints q)) ∧ Row W br 35 [.pointer (some ⟨b, 0, none⟩)] ∧
    Row W bo 3 [.int .i64 outs] ∧ Row W (bo + 1) 22 [.slice A2 k2 c2] ∧ Row W (br + 1) 22 [.slice At t ct] ∧ Th W (br + 2) bn (.slice At t ct) xs
theorem seenI_own (n b g bn bk br bo : Nat) (outs : Int) (A2 : Option Addr) (k2 c2 : Nat) (At : Option Addr) (t ct : Nat) (xs : List Int) : Own (SeenI n b g bn bk br bo outs A2 k2 c2 At t ct xs) :=
  own_and (row_own bn _ (fun pre : List Int => [.int .i64 (pre.length : Nat)])) (own_and (row_own bk _ (fun pre => [.bool (okV xs pre)])) (own_and (own_ex fun q => ring_own _ _ _ _ _ (fun _ => ints q)) (own_and (row_own _ _ (fun _ => _)) (own_and (row_own _ _ (fun _ => _)) (own_and (row_own _ _ (fun _ => _)) (own_and (row_own _ _ (fun _ => _)) (th_own _ _ _ _)))))))
theorem SeenI.but {S : Nat → Prop} {n b g bn bk br bo : Nat} {outs : Int} {A2 : Option Addr} {k2 c2 : Nat} {At : Option Addr} {t ct : Nat} {xs pre pre' : List Int} {W W' : World} (h : SeenI n b g bn bk br bo outs A2 k2 c2 At t ct xs pre W) (hb : But S W W')
    (h1 : Row W' bn 3 [.int .i64 (pre'.length : Nat)]) (h2 : Row W' bk 4 [.bool (okV xs pre')]) (h3 : ∃ q, Ring W' 64 3 b g n (ints q)) (hs : ¬ S br ∧ ¬ S bo ∧ ¬ S (bo + 1) ∧ ¬ S (br + 1)) (hs2 : ∀ k, br + 2 ≤ k → k < bn → ¬ S k) :
    SeenI n b g bn bk br bo outs A2 k2 c2 At t ct xs pre' W' :=
  ⟨h1, h2, h3, hb.row h.2.2.2.1 hs.1, hb.row h.2.2.2.2.1 hs.2.1, hb.row h.2.2.2.2.2.1 hs.2.2.1, hb.row h.2.2.2.2.2.2.1 hs.2.2.2, h.2.2.2.2.2.2.2.but hb hs2⟩
end Go.Proofs.Ytkoepaagdaconaa
