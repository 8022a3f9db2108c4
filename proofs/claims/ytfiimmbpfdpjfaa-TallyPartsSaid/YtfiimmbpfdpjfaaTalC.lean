/-
  Goroutines in memory; what each one has by a key.
-/
import Derived.Test.YtfiimmbpfdpjfaaTalB
import Derived.Test.YtfiimmbpfdpjfaaLotE
namespace Go.Proofs.Ytfiimmbpfdpjfaa
open Go.RowKit
set_option linter.unusedSimpArgs false

def sts : List St → List Value
  | [] => []
  | s :: ss => s.cells ++ sts ss
theorem cells_len (s : St) : s.cells.length = 7 := rfl
theorem sts_len (ss : List St) : (sts ss).length = ss.length * 7 := by
  induction ss with
  | nil => rfl
  | cons s ss ih => simp only [sts, List.length_append, List.length_cons, ih, cells_len]; omega
theorem sts_get : ∀ (ss : List St) (i q : Nat) (s : St), ss[i]? = some s → q < 7 → (sts ss)[i * 7 + q]? = s.cells[q]?
  | [], i, q, s, h, _ => by simp at h
  | x :: ss, 0, q, s, h, hq => by
    simp at h; subst h
    rw [sts, Nat.zero_mul, Nat.zero_add, List.getElem?_append_left (by rw [cells_len]; exact hq)]
  | x :: ss, i + 1, q, s, h, hq => by
    rw [sts, List.getElem?_append_right (by rw [cells_len]; omega), cells_len, show (i + 1) * 7 + q - 7 = i * 7 + q by omega]
    exact sts_get ss i q s h hq
theorem sts_one (ss : List St) : ∀ v ∈ sts ss, v.oneCell' = true := by
  induction ss with
  | nil => intro v hv; cases hv
  | cons s ss ih =>
    intro v hv
    rcases List.mem_append.1 hv with h | h
    · simp only [St.cells, List.mem_cons, List.not_mem_nil, or_false] at h
      rcases h with rfl | rfl | rfl | rfl | rfl | rfl | rfl <;> rfl
    · exact ih v h
/-- the cells of the i-th one -/
theorem st_at {w : World} {ad : Addr} {ss : List St} (hc : ∀ j, j < (sts ss).length → w.cell? (ad.add j) = (sts ss)[j]?) {i : Nat} {s : St} (hs : ss[i]? = some s) {ae : Addr} (hae : ad.add (i * 7) = ae) :
    w.cell? ae = some (.int .i64 s.ser) ∧ w.cell? ⟨ae.block, ae.off + 1, none⟩ = some (.string s.fn) ∧ w.cell? ⟨ae.block, ae.off + 2, none⟩ = some (.int .i64 s.be) ∧ w.cell? ⟨ae.block, ae.off + 3, none⟩ = some (.int .i64 s.di) ∧
      w.cell? ⟨ae.block, ae.off + 4, none⟩ = some (.int .i64 s.pa) ∧ w.cell? ⟨ae.block, ae.off + 5, none⟩ = some (.int .i64 s.wa) ∧ w.cell? ⟨ae.block, ae.off + 6, none⟩ = some (.bool s.fin) := by
  have hi := (List.getElem?_eq_some_iff.1 hs).1
  have key : ∀ q, q < 7 → w.cell? (ae.add q) = s.cells[q]? := fun q hq => by
    rw [← hae, addr_add, hc _ (by rw [sts_len]; omega)]
    exact sts_get ss i q s hs hq
  have h0 := key 0 (by decide)
  have h1 := key 1 (by decide)
  have h2 := key 2 (by decide)
  have h3 := key 3 (by decide)
  have h4 := key 4 (by decide)
  have h5 := key 5 (by decide)
  have h6 := key 6 (by decide)
  simp only [Addr.add, if_true] at h0
  simp [Addr.add] at h1 h2 h3 h4 h5 h6
  exact ⟨h0, h1, h2, h3, h4, h5, h6⟩

def valuesV (ss : List St) (k : Int) : List Nat := ss.map fun s => valueV s k
theorem ofInt_lt (x : Int) : floatOfInt .f64 x < 18446744073709551616 := by
  have := floatOfInt_wf .f64 x
  simpa [Lit.wf] using this
theorem ratioV_lt (a b : Int) : ratioV a b < 18446744073709551616 := by
  unfold ratioV
  cases hf : floatBits .quo .f64 (floatOfInt .f64 a) (floatOfInt .f64 b) with
  | some r =>
    have := floatBits_wf hf
    exact onev_lt (by simpa [Lit.wf] using this)
  | none => show theNan < _; unfold theNan; omega
theorem valueV_lt (s : St) (k : Int) : valueV s k < 18446744073709551616 := by
  unfold valueV
  split
  · exact ofInt_lt _
  · split
    · exact ofInt_lt _
    · split
      · exact ofInt_lt _
      · split
        · exact ofInt_lt _
        · split
          · exact ratioV_lt _ _
          · unfold theNan; omega
theorem valuesV_lt (ss : List St) (k : Int) : ∀ x ∈ valuesV ss k, x < 18446744073709551616 := by
  intro x hx
  obtain ⟨s, _, rfl⟩ := List.mem_map.1 hx
  exact valueV_lt s k

set_option maxHeartbeats 2000000 in
set_option maxRecDepth 100000 in
theorem values_c (A : Option Addr) (n c : Nat) (ss : List St) (k : Int) (w : World) (h : Cs w A (sts ss)) (hl : ss.length = n) (hn : n ≤ 1000) :
    Calls Try.prog 25 #[.slice A n c, .int .i64 k] w fun e w' => e = .returned (.slice (some ⟨w.heap.size, 0, none⟩) n n) ∧ Row w' w.heap.size 26 (flo (valuesV ss k)) ∧ Below w.heap.size w w' := by
  have hmk := fun w => run_make_flo (n : Int) (by omega) (by omega) w
  rw [Int.toNat_natCast] at hmk
  have HC := Lib.hid h
  have HL := Lib.hid hl
  have HVL : Hid ((flo (valuesV ss k)).length = n) := Lib.hid (by rw [flo_len]; simp [valuesV, hl])
  have HVG : Hid (∀ (j : Nat) (s : St), ss[j]? = some s → (flo (valuesV ss k))[j]? = some (.float .f64 (valueV s k))) := Lib.hid (fun j s hs => by simp [flo, valuesV, hs])
  generalize flo (valuesV ss k) = vs at *
  clear h hl
  go_enter Try.func25, Try.ntmps25
  go_wp2_with fail
  go_loopw [13] (fun a wr => ∃ j : Nat, j ≤ n ∧ a = .int .i64 j ∧ Row wr w.heap.size 26 (filled vs (.float .f64 0) n j) ∧ Below w.heap.size w wr) (fun a _ => n - (intOf a).toNat)
  case atStart =>
    refine ⟨0, by omega, rfl, ?_, (Below.refl _ _).alloc (Nat.le_refl _) _⟩
    rw [filled_zero]
    have := Row.new w 26 (List.replicate n (.float .f64 0))
    simpa using this
  case round =>
    obtain ⟨j, hj, rfl, hR, hB⟩ := hrel
    by_cases hlt : j < n
    · obtain ⟨s, hs⟩ : ∃ s, ss[j]? = some s := ⟨_, List.getElem?_eq_getElem (by rw [HL.out]; exact hlt)⟩
      obtain ⟨ad, hA, hcell⟩ := (HC.out.below hB) (by rw [sts_len, HL.out]; omega)
      obtain ⟨ae, hae⟩ : ∃ ae, ad.add (j * 7) = ae := ⟨_, rfl⟩
      obtain ⟨a0, a1, a2, a3, a4, a5, a6⟩ := st_at hcell hs hae
      have HR := Lib.hid hR
      have HB := Lib.hid hB
      have CV := Lib.hid (value_c s k)
      have HG := Lib.hid (HVG.out j s hs)
      obtain ⟨V, hV⟩ : ∃ V, valueV s k = V := ⟨_, rfl⟩
      rw [hV] at CV HG
      obtain ⟨v0, v1, v2, v3, v4, v5, v6⟩ := s
      have j0 : (0 : Int) ≤ (j : Int) := by omega
      subst hA
      clear hR hB hcell hs hV
      go_wp2_with (go_at_call 14; refine (CV.out _).mono ?_; rintro e w3 ⟨rfl, hb3⟩; have HR3 := Lib.hid ((HR.out.alloc _).grown hb3); have HB3 := Lib.hid ((HB.out.alloc HB.out.size _).trans (hb3.mono (by have := HB.out.size; show _ ≤ (wr.heap.push _).size; rw [Array.size_push]; omega))); have c3 : w3.cell? ⟨w.heap.size, j, none⟩ = some (.float .f64 0) := (by rw [HR3.out.cell, filled_at _ _ _ _ HVL.out hlt]); have f3 := HR3.out.frozen j; clear hb3)
      go_roundw
      case rel =>
        refine ⟨j + 1, by omega, by go_num, ?_, HB3.out.setCell (p := ⟨w.heap.size, j, none⟩) (Nat.le_refl _) _⟩
        rw [← filled_set _ _ (.float .f64 V) _ _ HVL.out hlt HG.out]
        exact HR3.out.set j _
      case measure => simp [intOf]; omega
    · have hjn : j = n := by omega
      subst hjn
      rw [filled_all _ _ _ HVL.out] at hR
      have HR := Lib.hid hR
      have HB := Lib.hid hB
      clear hR hB
      go_wp2
      go_ret
      exact ⟨rfl, HR.out, HB.out⟩

set_option maxHeartbeats 2000000 in
set_option maxRecDepth 100000 in
theorem refValues_c (A : Option Addr) (n c : Nat) (ss : List St) (k : Int) (w : World) (h : Cs w A (sts ss)) (hl : ss.length = n) (hn : n ≤ 1000) :
    Calls Try.prog 31 #[.slice A n c, .int .i64 k] w fun e w' => ∃ A' c', e = .returned (.slice A' n c') ∧ Fs w' A' n (valuesV ss k) ∧ (∀ ad, A' = some ad → w.heap.size ≤ ad.block ∧ ad.block < w'.heap.size) ∧ Below w.heap.size w w' := by
  obtain ⟨i0, hi, hz0, hz1, hz2⟩ := info_parts infoF
  have HC := Lib.hid h
  have HL := Lib.hid hl
  have HS : Hid ((valuesV ss k).length = n) := Lib.hid (by simp [valuesV, hl])
  have HG : Hid (∀ (j : Nat) (s : St), ss[j]? = some s → (valuesV ss k)[j]? = some (valueV s k)) := Lib.hid (fun j s hs => by simp [valuesV, hs])
  have HBt := Lib.hid (valuesV_lt ss k)
  generalize valuesV ss k = vs at *
  clear h hl
  go_enter Try.func31, Try.ntmps31
  go_wp2_with fail
  go_loopw [5, 6] (fun v i wr => ∃ j : Nat, j ≤ n ∧ i = .int .i64 j ∧ wr.ownsRow w.heap.size 26 1 v j (flo (vs.take j)) ∧ Below w.heap.size w wr) (fun _ i _ => n - (intOf i).toNat)
  case atStart => exact ⟨0, by omega, rfl, World.ownsRow_nil _ _ _ _, Below.refl _ _⟩
  case round =>
    obtain ⟨j, hj, rfl, hown, hB⟩ := hrel
    by_cases hlt : j < n
    · obtain ⟨s, hs⟩ : ∃ s, ss[j]? = some s := ⟨_, List.getElem?_eq_getElem (by rw [HL.out]; exact hlt)⟩
      obtain ⟨ad, hA, hcell⟩ := (HC.out.below hB) (by rw [sts_len, HL.out]; omega)
      obtain ⟨ae, hae⟩ : ∃ ae, ad.add (j * 7) = ae := ⟨_, rfl⟩
      obtain ⟨a0, a1, a2, a3, a4, a5, a6⟩ := st_at hcell hs hae
      have HB := Lib.hid hB
      have HO := Lib.hid hown
      have CV := Lib.hid (refValue_c s k)
      have HGj := Lib.hid (HG.out j s hs)
      obtain ⟨V, hV⟩ : ∃ V, valueV s k = V := ⟨_, rfl⟩
      rw [hV] at CV HGj
      obtain ⟨v0, v1, v2, v3, v4, v5, v6⟩ := s
      have j0 : (0 : Int) ≤ (j : Int) := by omega
      subst hA
      clear hB hown hcell hs hV
      go_wp2_with fail
      with_reducible refine (CV.out _).mono ?_
      rintro e w3 ⟨rfl, hb3⟩
      have HB3 : Hid (Below w.heap.size w w3) := Lib.hid (HB.out.trans (hb3.mono HB.out.size))
      have HO3 := Lib.hid (World.ownsRow.kept HO.out (below_grown hb3 none) (Classical.em _))
      clear hb3
      go_wp2_with (first
        | (at_builtin; refine wpList_append_own _ rfl _ _ 61 rfl w.heap.size 26 i0 (.float .f64 0) 1 8 Try.underlying61 hi hz0 hz1 hz2 rfl (by decide) _ j (flo (vs.take j)) rfl (World.ownsRow.alloc HO3.out _) ⟨w3.heap.size, 0, none⟩ 1 1 [.float .f64 V] rfl rfl ?c1 ?c2 ?c3 ?c4 ?c5 ?_)
        | go_in)
      case c1 =>
        intro q u hq
        match q, hq with
        | 0, hq => simp at hq; subst hq; exact (Row.new w3 _ [_]).cell 0
      case c2 => intro u hu; simp at hu; subst hu; rfl
      case c3 => unfold maxLen; omega
      case c4 => omega
      case c5 => have := HB3.out.size; simp; omega
      intro v' w4 hown' hgrow _
      have HO4 := Lib.hid hown'
      have HG4 := Lib.hid hgrow
      clear hown' hgrow
      go_wp2
      go_roundw
      case rel =>
        refine ⟨j + 1, by omega, by go_num, ?_, own_next HB3.out HB3.out.size HO3.out _ HG4.out⟩
        have := HO4.out
        rw [flo_one] at this
        rw [List.take_add_one, HGj.out]
        exact this
      case measure => simp [intOf]; omega
    · have hjn : j = n := by omega
      subst hjn
      rw [List.take_of_length_le (Nat.le_of_eq HS.out)] at hown
      have hlt2 : ∀ g, u5.ownBlock = some g → w.heap.size ≤ g ∧ g < wr.heap.size := fun g hg => hown.lt g hg
      obtain ⟨A', c', rfl, hF, _, hA'⟩ := owned_fs hown HBt.out (by omega)
      have HR := Lib.hid hF
      have HA : Hid (∀ ad, A' = some ad → w.heap.size ≤ ad.block ∧ ad.block < wr.heap.size) := Lib.hid (fun ad he => hlt2 ad.block (by rw [he]; rfl))
      have HB := Lib.hid hB
      clear hF hA' hB hown hlt2
      go_wp2
      go_ret
      exact ⟨A', c', rfl, HR.out, HA.out, HB.out⟩
end Go.Proofs.Ytfiimmbpfdpjfaa
