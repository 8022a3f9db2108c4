/-
  cut, own, still and sameFloats of the statements; tally.Most; the rows of the document's examples.
-/
import Derived.Test.YtfiimmbpfdpjfaaTalC
import Derived.Test.YtfiimmbpfdpjfaaLotH
import Derived.Laws.StructEq
import Derived.ChangeKeysEq
namespace Go.Proofs.Ytfiimmbpfdpjfaa
open Go.RowKit
set_option linter.unusedSimpArgs false

theorem infoS : (Try.prog.info? 38).map (fun i => (i.zero, i.size, i.bytes)) = some (some (.agg #[.int .i64 0, .string ByteArray.empty, .int .i64 0, .int .i64 0, .int .i64 0, .int .i64 0, .bool false]), 7, 64) := by kernel_rfl

/-- a list of goroutines -/
structure Ss (w : World) (A : Option Addr) (n : Nat) (ss : List St) : Prop where
  len : ss.length = n
  cs : Cs w A (sts ss)
theorem Ss.below {w w' : World} {A : Option Addr} {n : Nat} {ss : List St} (h : Ss w A n ss) (hb : Below w.heap.size w w') : Ss w' A n ss := ⟨h.len, h.cs.below hb⟩
theorem sts_take (ss : List St) (m : Nat) : sts (ss.take m) = (sts ss).take (m * 7) := by
  induction ss generalizing m with
  | nil => simp [sts]
  | cons s ss ih =>
    cases m with
    | zero => simp [sts]
    | succ m =>
      rw [List.take_succ_cons, sts, sts, ih, List.take_append, cells_len, List.take_of_length_le (l := s.cells) (by rw [cells_len]; omega), show (m + 1) * 7 - 7 = m * 7 by omega]
theorem Ss.take {w : World} {A : Option Addr} {n : Nat} {ss : List St} (h : Ss w A n ss) (m : Nat) (hm : m ≤ n) : Ss w A m (ss.take m) :=
  ⟨by rw [List.length_take, h.len]; omega, fun h0 => by
    rw [sts_take] at h0 ⊢
    rw [List.length_take] at h0
    obtain ⟨ad, e, hc⟩ := h.cs (by omega)
    refine ⟨ad, e, fun j hj => ?_⟩
    rw [List.length_take] at hj
    rw [hc j (by omega), List.getElem?_take, if_pos (by omega)]⟩

set_option maxRecDepth 100000 in
theorem cut22_c (A : Option Addr) (n c : Nat) (ss : List St) (w : World) (h : Ss w A n ss) (hc : n ≤ c) (hA : A = none → n = 0 ∧ c = 0) (hn : n * 64 ≤ 140737488351232) :
    Calls Try.prog 6 #[.slice A n c] w fun e w' => (∃ A' n' c' ss', e = .returned (.slice A' n' c') ∧ Ss w A' n' ss' ∧ n' ≤ c' ∧ n' ≤ 1000 ∧ (A' = none → n' = 0 ∧ c' = 0)) ∧ w' = w := by
  have HS := Lib.hid h
  have HN := Lib.hid hA
  by_cases hlt : n ≤ 1000
  · have HR := Lib.hid hc
    have HLt := Lib.hid hlt
    clear h hA
    go_enter Try.func6, Try.ntmps6
    go_wp2
    go_ret
    exact ⟨⟨A, n, c, ss, rfl, HS.out, HR.out, HLt.out, HN.out⟩, rfl⟩
  · obtain ⟨ad, hA', hcell⟩ := h.cs (by rw [sts_len, h.len]; omega)
    subst hA'
    have HR := Lib.hid hc
    clear h hA hcell
    go_enter Try.func6, Try.ntmps6
    go_wp2
    go_ret
    refine ⟨⟨some ad, 1000, c, ss.take 1000, ?_, HS.out.take 1000 (by omega), by have := HR.out; omega, by omega, fun h => nomatch h⟩, rfl⟩
    try rw [add_zero]
    try rfl

set_option maxRecDepth 100000 in
theorem own22_c (M : Option Addr) (n c : Nat) (ss : List St) (w : World) (h : Ss w M n ss) (hM : M = none → n = 0 ∧ c = 0) (hn : n ≤ 1000) :
    Calls Try.prog 7 #[.slice M n c] w fun e w' => ∃ A' c', e = .returned (.slice A' n c') ∧ Ss w' A' n ss ∧ Below w.heap.size w w' := by
  obtain ⟨i0, hi, hz0, hz1, hz2⟩ := info_parts infoS
  have HF := Lib.hid h.cs
  have HL := Lib.hid h.len
  cases hMc : M with
  | none =>
    obtain ⟨h0, h1⟩ := hM hMc
    subst h0
    subst h1
    have HS := Lib.hid h
    subst hMc
    clear h hM
    go_enter Try.func7, Try.ntmps7
    go_wp2
    go_ret
    exact ⟨none, 0, rfl, HS.out, Below.refl _ _⟩
  | some ad =>
    subst hMc
    clear h hM
    go_enter Try.func7, Try.ntmps7
    go_wp2_with (first
      | (at_builtin; refine wpList_append_own _ rfl _ _ 22 rfl w.heap.size 38 i0 (.agg #[.int .i64 0, .string ByteArray.empty, .int .i64 0, .int .i64 0, .int .i64 0, .int .i64 0, .bool false]) 7 64 Try.underlying22 hi hz0 hz1 hz2 rfl (by decide) _ 0 [] rfl ?c0 ad n c (sts ss) rfl ?cl ?c1 ?c2 ?c3 ?c4 ?c5 ?_)
      | go_in)
    case c0 => exact World.ownsRow_nil _ _ _ _
    case cl => rw [sts_len, HL.out]
    case c1 =>
      intro j u hj
      have hjn := (List.getElem?_eq_some_iff.1 hj).1
      obtain ⟨a2, e2, hc⟩ := HF.out (by omega)
      cases e2
      exact (hc j hjn).trans hj
    case c2 => exact sts_one ss
    case c3 => unfold maxLen; omega
    case c4 => omega
    case c5 => simp
    intro v' w1 hown' hgrow _
    have HO1 := Lib.hid hown'
    have HB1 : Hid (Below w.heap.size w w1) := Lib.hid ((Below.refl w.heap.size w).grown hgrow (Nat.le_refl _) (fun k hk => by simp [Value.ownBlock] at hk))
    clear hown' hgrow
    go_wp2
    go_ret
    rcases HO1.out.2 with ⟨e1, e2⟩ | ⟨g, cap, cur, e1, _, hgg, _, _, _, htake⟩
    · refine ⟨none, 0, by rw [e1, e2]; rfl, ⟨HL.out, fun h0 => ?_⟩, HB1.out⟩
      rw [sts_len, HL.out] at h0
      omega
    · refine ⟨_, cap, by rw [e1]; rfl, ⟨HL.out, fun h0 => ⟨_, rfl, fun j hj => ?_⟩⟩, HB1.out⟩
      have hR : Row w1 g 38 (sts ss ++ cur.toList.drop (n * 7)) := by
        unfold Row
        rw [hgg]
        congr 1
        rw [← htake, List.take_append_drop]
      rw [add_zero, hR.cell, List.getElem?_append_left hj]

set_option maxRecDepth 100000 in
theorem most22_c (A : Option Addr) (n c : Nat) (ss : List St) (k : Int) (w : World) (h : Ss w A n ss) (hn : n ≤ 1000) :
    Calls Try.prog 15 #[.slice A n c, .int .i64 k] w fun e w' => e = .returned (.tuple #[.int .i64 (bestV (valuesV ss k) 1).2, .float .f64 (bestV (valuesV ss k) 1).1]) ∧ Below w.heap.size w w' := by
  have CV := Lib.hid (values_c A n c ss k w h.cs h.len hn)
  have HX := Lib.hid (valuesV_lt ss k)
  have HXL : Hid ((valuesV ss k).length = n) := Lib.hid (by simp [valuesV, h.len])
  generalize valuesV ss k = xs at *
  clear h
  go_enter Try.func15, Try.ntmps15
  go_wp2_with fail
  refine CV.out.mono ?_
  rintro e w1 ⟨rfl, hr, hb⟩
  have HB := Lib.hid hb
  have CM := Lib.hid (most_c (some ⟨w.heap.size, 0, none⟩) n n xs w1 (HXL.out ▸ Fs.of_row (xs := xs) (rest := []) (by rw [List.append_nil]; exact hr) (by rw [HXL.out]; omega) HX.out))
  clear hr hb
  go_wp2_with (go_at_call 24; refine CM.out.mono ?_; rintro e w2 ⟨rfl, rfl⟩)
  go_ret2
  exact ⟨rfl, HB.out⟩

/-- what a field of a struct of plain cells is like -/
def plainAt (P : Program) (xs : Array Value) (f : Field) : Bool := f.name != "_" && match P.underlying f.type, xs[f.offset]? with
  | some (.int _), some (.int _ _) => true
  | some .bool, some (.bool _) => true
  | some .string, some (.string _) => true
  | _, _ => false
theorem plainAt_eq {P : Program} {xs : Array Value} {f : Field} (w : World) (d : Nat) (h : plainAt P xs f = true) : f.name ≠ "_" ∧ ∃ v, (part f.type xs f.offset).run P w = .ok v w ∧ (Op.equalIn (d + 1) f.type v v).run P w = .ok true w := by
  unfold plainAt at h
  rw [Bool.and_eq_true] at h
  refine ⟨by simpa using h.1, ?_⟩
  have h2 := h.2
  split at h2
  · rename_i hu hx
    exact ⟨_, run_part_plain w (by unfold Program.plainKey; rw [hu]) hx, by rw [run_equalIn_int w d _ _ _ _ _ hu]; simp⟩
  · rename_i hu hx
    exact ⟨_, run_part_plain w (by unfold Program.plainKey; rw [hu]) hx, by rw [run_equalIn_bool w d _ _ _ hu]; simp⟩
  · rename_i hu hx
    exact ⟨_, run_part_plain w (by unfold Program.plainKey; rw [hu]) hx, by rw [run_equalIn_string w d _ _ _ hu]; simp⟩
  · cases h2
theorem eqFields_refl {P : Program} {xs : Array Value} (w : World) (d : Nat) : ∀ fs : List Field, fs.all (plainAt P xs) = true → (Op.eqFields (d + 1) xs xs fs).run P w = .ok true w
  | [], _ => by simp [Op.eqFields]
  | f :: fs, h => by
    rw [List.all_cons, Bool.and_eq_true] at h
    obtain ⟨hn, v, h1, h2⟩ := plainAt_eq w d h.1
    simp only [Op.eqFields, hn, ne_eq, not_false_eq_true, if_true, Sem.run_bind, h1, h2, Result.andThen_ok, Bool.not_true, Bool.false_eq_true, if_false]
    exact eqFields_refl w d fs h.2
theorem run_neq_stat (a : Int) (b : ByteArray) (c d e f : Int) (g : Bool) (w : World) : (binOp .neq 38 (.agg #[.int .i64 a, .string b, .int .i64 c, .int .i64 d, .int .i64 e, .int .i64 f, .bool g]) (.agg #[.int .i64 a, .string b, .int .i64 c, .int .i64 d, .int .i64 e, .int .i64 f, .bool g])).run Try.prog w = .ok (.bool false) w := by
  have h1 : (Try.prog.fieldsOf 38).toList.all (plainAt Try.prog #[Value.int .i64 a, .string b, .int .i64 c, .int .i64 d, .int .i64 e, .int .i64 f, .bool g]) = true := by kernel_rfl
  rw [run_neq_struct, run_equalIn_agg w 9999 _ _ _ (by kernel_rfl) (by kernel_rfl), eqFields_refl w 9998 _ h1]
  rfl

set_option maxRecDepth 100000 in
/-- a list of the caller's is as it was -/
theorem still22_c (A B : Option Addr) (n c d : Nat) (ss : List St) (w : World) (h : Ss w A n ss) (h2 : Ss w B n ss) (hn : n ≤ 1000) :
    Calls Try.prog 13 #[.slice A n c, .slice B n d] w fun e w' => e = .returned (.bool true) ∧ Drw w w' := by
  have HL := Lib.hid h.len
  have HC := Lib.hid h.cs
  have HC2 := Lib.hid h2.cs
  clear h h2
  go_enter Try.func13, Try.ntmps13
  go_wp2
  go_loopw [5] (fun i wr => ∃ k : Nat, k ≤ n ∧ i = .int .i64 k ∧ Drw w wr) (fun i _ => n - (intOf i).toNat)
  case atStart => exact ⟨0, by omega, rfl, Drw.refl _⟩
  case round =>
    obtain ⟨k, hk, rfl, ⟨dd, rfl⟩⟩ := hrel
    by_cases hlt : k < n
    · obtain ⟨s, hs⟩ : ∃ s, ss[k]? = some s := ⟨_, List.getElem?_eq_getElem (by rw [HL.out]; exact hlt)⟩
      obtain ⟨ad, hA, hcell⟩ := HC.out (by rw [sts_len, HL.out]; omega)
      obtain ⟨ad2, hB, hcell2⟩ := HC2.out (by rw [sts_len, HL.out]; omega)
      obtain ⟨ae, hae⟩ : ∃ ae, ad.add (k * 7) = ae := ⟨_, rfl⟩
      obtain ⟨ae2, hae2⟩ : ∃ ae, ad2.add (k * 7) = ae := ⟨_, rfl⟩
      obtain ⟨a0, a1, a2, a3, a4, a5, a6⟩ := st_at hcell hs hae
      obtain ⟨b0, b1, b2, b3, b4, b5, b6⟩ := st_at hcell2 hs hae2
      obtain ⟨v0, v1, v2, v3, v4, v5, v6⟩ := s
      have hneq := fun w => run_neq_stat v0 v1 v2 v3 v4 v5 v6 w
      have j0 : (0 : Int) ≤ (k : Int) := by omega
      subst hA
      subst hB
      clear hcell hcell2 hs
      go_wp2_with fail
      go_quiet (fail)
      go_wp2
      go_roundw
      case rel => exact ⟨k + 1, by omega, by go_num, ⟨_, rfl⟩⟩
      case measure => simp [intOf]; omega
    · have hkn : k = n := by omega
      subst hkn
      go_wp2
      go_ret
      exact ⟨rfl, ⟨_, rfl⟩⟩
end Go.Proofs.Ytfiimmbpfdpjfaa
