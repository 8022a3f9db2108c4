/-
  The map's keys, sorted, are the names in order.
-/
import Derived.Test.YtfiimmbpfdpjfaaGrpA
import Derived.Test.YtfiimmbpfdpjfaaSumE
import Derived.Sort.KeysCollected
import Derived.Lib.Strings
namespace Go.Proofs.Ytfiimmbpfdpjfaa
open Go.RowKit Go.Maps
set_option linter.unusedSimpArgs false

abbrev bytesOf (x : List UInt8) : ByteArray := ⟨x.toArray⟩
theorem ltS_bytes (x y : List UInt8) : ltS (bytesOf x) (bytesOf y) = decide (x < y) := by
  rw [ltS_eq, Lib.toList_data, Lib.toList_data]
theorem strL_bytes (x : List UInt8) : strL (bytesOf x) = .string x := rfl
theorem named_some {ss : List St} {x : ByteArray} : (named x ss).isEmpty = false ↔ ∃ s ∈ ss, s.fn = x := by
  unfold named
  rw [← Bool.not_eq_true, List.isEmpty_iff, List.filter_eq_nil_iff]
  constructor
  · intro h
    rcases Classical.em (∃ s ∈ ss, s.fn = x) with e | e
    · exact e
    · exact absurd (fun s hs hd => e ⟨s, hs, of_decide_eq_true hd⟩) h
  · rintro ⟨s, hs, e⟩ h
    exact h s hs (decide_eq_true e)
theorem names_of_keys {K : TypeId} {w : World} {b n : Nat} {D : DataW Value} {h : ByteArray → Value} {ss : List St} (hg : Grp K w b n D h fun nm => named nm ss) (hK : Try.prog.underlying K = some .string) {ks : List (List UInt8)} (hp : ks.Perm (strKeys D)) :
    Names ss ((ks.mergeSort leB).map bytesOf) := by
  obtain ⟨es, hD, hk⟩ := hg.own.keysOf
  obtain ⟨es', e', hpw⟩ := hg.tidy
  subst hD
  cases e'
  have hkey : ∀ p ∈ es, ∃ x, p.1 = .string x := fun p hp => by
    obtain ⟨v, hv⟩ := hk p hp
    obtain ⟨x, _, hx, _⟩ := Maps.keyOf_str hK hv
    exact ⟨x, hx⟩
  have hnd : (strKeys (.map es)).Nodup := by
    show (es.map fun p => strOf p.1).Nodup
    refine List.pairwise_map.2 (hpw.imp_of_mem fun {p q} hp' hq' hne e => hne ?_)
    obtain ⟨a, ha⟩ := hkey p hp'
    obtain ⟨b, hb⟩ := hkey q hq'
    rw [ha, hb] at e ⊢
    exact congrArg _ e
  have hmem : ∀ x, x ∈ strKeys (.map es) ↔ Maps.has (.map es) (.string x) = true := fun x => by
    rw [has_eq, List.any_eq_true]
    show x ∈ es.map (fun p => strOf p.1) ↔ _
    rw [List.mem_map]
    constructor
    · rintro ⟨p, h1, h2⟩
      obtain ⟨y, hy⟩ := hkey p h1
      obtain ⟨v, hv⟩ := hk p h1
      have hkl := (string_keyed hK).key hv
      refine ⟨p, h1, ?_⟩
      rw [hy] at h2 hkl ⊢
      have e : y = x := h2
      subst e
      exact WideAt.sameKey_self hkl
    · rintro ⟨p, h1, h2⟩
      obtain ⟨y, hy⟩ := hkey p h1
      refine ⟨p, h1, ?_⟩
      rw [hy] at h2 ⊢
      have e : y = x := by simpa [Lit.sameKey] using h2
      exact e
  have hsp := List.mergeSort_perm ks leB
  have tr : ∀ a b c : List UInt8, leB a b = true → leB b c = true → leB a c = true := fun a b c h1 h2 => by simp only [leB, decide_eq_true_eq] at *; exact List.le_trans h1 h2
  have tt : ∀ a b : List UInt8, (leB a b || leB b a) = true := fun a b => by simp only [leB, Bool.or_eq_true, decide_eq_true_eq]; exact List.le_total a b
  refine ⟨?_, fun x => ?_⟩
  · refine List.pairwise_map.2 ?_
    have h1 := List.pairwise_mergeSort tr tt ks
    have h2 : (ks.mergeSort leB).Nodup := (hsp.trans hp).nodup_iff.2 hnd
    refine (h1.and h2).imp fun {a b} hab => ?_
    rw [ltS_bytes]
    refine decide_eq_true ?_
    have hle : a ≤ b := of_decide_eq_true hab.1
    rcases Classical.em (a < b) with e | e
    · exact e
    · exact absurd (List.le_antisymm hle (List.not_lt.1 e)) hab.2
  · rw [List.mem_map]
    have key : ∀ y, y ∈ ks.mergeSort leB ↔ ∃ s ∈ ss, s.fn = bytesOf y := fun y => by
      rw [(hsp.trans hp).mem_iff, hmem y]
      have := hg.has (bytesOf y)
      rw [strL_bytes] at this
      rw [this, Bool.not_eq_true', named_some]
    constructor
    · rintro ⟨y, h1, rfl⟩
      exact (key y).1 h1
    · intro hx
      refine ⟨x.data.toList, (key _).2 ?_, ?_⟩
      · have e : bytesOf x.data.toList = x := by cases x; simp [bytesOf]
        rw [e]; exact hx
      · cases x; simp [bytesOf]
end Go.Proofs.Ytfiimmbpfdpjfaa
