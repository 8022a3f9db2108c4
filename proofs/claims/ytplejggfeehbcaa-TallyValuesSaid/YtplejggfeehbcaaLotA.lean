/-
  Lots: Pick, slices.Clone of floats, Heaviest and Choose by definition.
-/
import Derived.Test.YtplejggfeehbcaaLawE
import Derived.Lib.SliceRun
namespace Go.Proofs.Ytplejggfeehbcaa
open Go.RowKit
set_option linter.unusedSimpArgs false

def plus (x : Int) : Int := if x < 0 then -(x + 1) else x
def pickV (raw n : Int) : Int := if n < 1 then -1 else (plus raw).tmod n
theorem plus_wf {x : Int} (h : -9223372036854775808 ≤ x ∧ x ≤ 9223372036854775807) : 0 ≤ plus x ∧ plus x ≤ 9223372036854775807 := by
  unfold plus; split <;> omega

theorem pick_c (raw n : Int) (w : World) (hr : -9223372036854775808 ≤ raw ∧ raw ≤ 9223372036854775807) (hn : n ≤ 9223372036854775807) :
    Calls Try.prog 55 #[.int .i64 raw, .int .i64 n] w fun e w' => e = .returned (.int .i64 (pickV raw n)) ∧ w = w' := by
  by_cases h1 : n < 1
  · have HV : Hid (pickV raw n = -1) := Lib.hid (if_pos h1)
    go_enter Try.func55, Try.ntmps55
    go_wp2
    go_ret
    exact ⟨by rw [HV.out]; rfl, rfl⟩
  · obtain ⟨m, hm⟩ : ∃ m, (plus raw).tmod n = m := ⟨_, rfl⟩
    have HV : Hid (pickV raw n = m) := Lib.hid ((if_neg h1).trans hm)
    have n0 : (n == 0) = false := beq_eq_false_iff_ne.2 (by omega)
    have n1 : n ≠ 0 := by omega
    have n2 : ¬ n = -1 := by omega
    have hp := plus_wf hr
    by_cases h2 : raw < 0
    · have e : plus raw = -(raw + 1) := if_pos h2
      obtain ⟨y, hy⟩ : ∃ y, -(raw + 1) = y := ⟨_, rfl⟩
      rw [e, hy] at hm hp
      clear e
      go_enter Try.func55, Try.ntmps55
      go_wp2
      go_ret
      exact ⟨by rw [HV.out]; rfl, rfl⟩
    · have e : plus raw = raw := if_neg h2
      rw [e] at hm hp
      clear e
      go_enter Try.func55, Try.ntmps55
      go_wp2
      go_ret
      exact ⟨by rw [HV.out]; rfl, rfl⟩
theorem tdiv_facts (x n : Int) (hx : 0 ≤ x) (hn : 1 ≤ n) : 0 ≤ x.tdiv n * n ∧ x.tdiv n * n ≤ x ∧ x - x.tdiv n * n = x.tmod n ∧ 0 ≤ x.tdiv n ∧ x.tdiv n ≤ x := by
  have h1 := Int.tmod_add_mul_tdiv x n
  have h2 : 0 ≤ x.tmod n := Int.tmod_nonneg n hx
  have h3 : 0 ≤ x.tdiv n := Int.tdiv_nonneg hx (by omega)
  have h4 : n * x.tdiv n = x.tdiv n * n := Int.mul_comm ..
  have h5 : 0 ≤ x.tdiv n * n := Int.mul_nonneg h3 (by omega)
  have h6 : x.tdiv n ≤ x := by
    have : x.tdiv n * 1 ≤ x.tdiv n * n := Int.mul_le_mul_of_nonneg_left hn h3
    omega
  rw [h4] at h1
  omega
theorem refPick_c (raw n : Int) (w : World) (hr : -9223372036854775808 ≤ raw ∧ raw ≤ 9223372036854775807) (hn : n ≤ 9223372036854775807) :
    Calls Try.prog 57 #[.int .i64 raw, .int .i64 n] w fun e w' => e = .returned (.int .i64 (pickV raw n)) ∧ w = w' := by
  by_cases h1 : n < 1
  · have HV : Hid (pickV raw n = -1) := Lib.hid (if_pos h1)
    go_enter Try.func57, Try.ntmps57
    go_wp2
    go_ret
    exact ⟨by rw [HV.out]; rfl, rfl⟩
  · have hp := plus_wf hr
    obtain ⟨f1, f2, f3, f4, f5⟩ := tdiv_facts (plus raw) n hp.1 (by omega)
    have HV : Hid (pickV raw n = (plus raw).tmod n) := Lib.hid (if_neg h1)
    rw [← f3] at HV
    clear f3
    have n0 : (n == 0) = false := beq_eq_false_iff_ne.2 (by omega)
    have n1 : n ≠ 0 := by omega
    have n2 : ¬ n = -1 := by omega
    by_cases h2 : raw < 0
    · have e : plus raw = -1 - raw := (if_pos h2).trans (by omega)
      obtain ⟨y, hy⟩ : ∃ y, -1 - raw = y := ⟨_, rfl⟩
      rw [e, hy] at hp f1 f2 f4 f5 HV
      obtain ⟨q, hq⟩ : ∃ q, y.tdiv n = q := ⟨_, rfl⟩
      rw [hq] at f1 f2 f4 f5 HV
      obtain ⟨m, hm⟩ : ∃ m, q * n = m := ⟨_, rfl⟩
      rw [hm] at f1 f2 HV
      clear e
      go_enter Try.func57, Try.ntmps57
      go_wp2
      go_ret
      exact ⟨by rw [HV.out]; rfl, rfl⟩
    · have e : plus raw = raw := if_neg h2
      rw [e] at hp f1 f2 f4 f5 HV
      obtain ⟨q, hq⟩ : ∃ q, raw.tdiv n = q := ⟨_, rfl⟩
      rw [hq] at f1 f2 f4 f5 HV
      obtain ⟨m, hm⟩ : ∃ m, q * n = m := ⟨_, rfl⟩
      rw [hm] at f1 f2 HV
      clear e
      go_enter Try.func57, Try.ntmps57
      go_wp2
      go_ret
      exact ⟨by rw [HV.out]; rfl, rfl⟩

set_option maxRecDepth 100000 in
/-- 'append([]E{}, s...)' of floats -/
theorem cloneF_c (A : Option Addr) (n c : Nat) (xs : List Nat) (w : World) (h : Fs w A n xs) (hA : A = none → n = 0 ∧ c = 0) (hn : n ≤ 17592186044400) :
    Calls Try.prog 99 #[.slice A n c] w fun e w' => ∃ v, e = .returned v ∧ w'.ownsRow w.heap.size 24 1 v n (flo xs) ∧ Below w.heap.size w w' := by
  obtain ⟨i0, hi, hz0, hz1, hz2⟩ := info_parts infoF
  have HL := Lib.hid h.len
  have q1 : ∀ (w : World) (a : Option Addr) (n c n' c' : Nat), (binOp .eql 31 (.slice a n c) (.slice none n' c')).run Try.prog w = .ok (.bool a.isNone) w := fun w a n c n' c' => Lib.run_eql_slice_nil w _ _ a n c n' c' Try.underlying31
  cases hAc : A with
  | none =>
    obtain ⟨h0, h1⟩ := hA hAc
    subst h0
    subst h1
    have hx : xs = [] := List.eq_nil_of_length_eq_zero h.len
    have HX := Lib.hid hx
    clear hx h hA hAc
    go_enter Try.func99, Try.ntmps99
    go_wp2
    go_ret
    exact ⟨_, rfl, by rw [HX.out]; exact World.ownsRow_nil _ _ _ _, Below.refl _ _⟩
  | some ad =>
    subst hAc
    have HF := Lib.hid h
    clear h hA
    go_enter Try.func99, Try.ntmps99
    go_wp2_with (first
      | (at_builtin; refine wpList_append_own _ rfl _ _ 31 rfl w.heap.size 24 i0 (.float .f64 0) 1 8 Try.underlying31 hi hz0 hz1 hz2 rfl (by decide) _ 0 [] rfl ?c0 ad n c (flo xs) rfl ?cl ?c1 ?c2 ?c3 ?c4 ?c5 ?_)
      | go_in)
    case c0 => exact World.ownsRow_made w #[] 0 (Nat.le_refl _) (by decide) rfl
    case cl => rw [flo_len, HL.out]; omega
    case c1 =>
      intro j u hj
      have hjn : j < n := by have := (List.getElem?_eq_some_iff.1 hj).1; rw [flo_len, HL.out] at this; exact this
      obtain ⟨a2, e2, hc⟩ := HF.out.at_ (by omega)
      cases e2
      rw [flo_get _ _ (by rw [HL.out]; exact hjn)] at hj
      cases hj
      exact (((Below.refl w.heap.size w).alloc (Nat.le_refl _) _).cell (p := ad.add j) (cell_lt (hc j hjn))).trans (hc j hjn)
    case c2 =>
      intro u hu
      obtain ⟨x, _, rfl⟩ := List.mem_map.1 hu
      rfl
    case c3 => unfold maxLen; omega
    case c4 => omega
    case c5 => simp
    intro v' w1 hown' hgrow _
    have HO1 := Lib.hid hown'
    have HB1 : Hid (Below w.heap.size w w1) := Lib.hid (((Below.refl w.heap.size w).alloc (Nat.le_refl _) _).grown hgrow (by show _ ≤ (w.heap.push _).size; rw [Array.size_push]; omega) (fun k hk => by simp [Value.ownBlock] at hk; omega))
    clear hown' hgrow
    go_wp2
    go_ret
    refine ⟨_, rfl, ?_, HB1.out⟩
    exact HO1.out

/-- 's[:m]' of floats -/
theorem fs_upto (A : Option Addr) (n c m : Nat) (hm : m ≤ c) : ∀ W : World, (Instr.slice 31 (.slice A n c) none (some (.int .i64 (m : Int))) none).run Try.prog W = .ok (.slice A m c) W := by
  intro W
  obtain ⟨i0, hi, hz⟩ := Option.map_eq_some_iff.1 infoF
  simp only [Prod.mk.injEq] at hz
  obtain ⟨_, hz1, _⟩ := hz
  have hel : Try.prog.elem 31 = 24 := by kernel_rfl
  have hu : Try.prog.underlying 31 = some (.slice (Try.prog.elem 31)) := by rw [hel]; exact Try.underlying31
  rw [run_slice_h W 31 A n c hu .i64 (m : Int) (by omega) (by omega), hel]
  have e : A.map (fun a : Addr => a.add 0) = A := by
    cases A with
    | none => rfl
    | some a => simp [Addr.add]
  by_cases hc : c = 0
  · simp [sizeOf, typeInfo, hi, hz1, sliced, Result.andThen, hc]
  · simp [sizeOf, typeInfo, hi, hz1, sliced, Result.andThen, e]

theorem Fs.take {w : World} {A : Option Addr} {n : Nat} {xs : List Nat} (h : Fs w A n xs) (m : Nat) (hm : m ≤ n) : Fs w A m (xs.take m) :=
  ⟨by rw [List.length_take, h.len]; omega, Nat.le_trans hm h.small, fun x hx => h.bits x (List.mem_of_mem_take hx), fun h0 => by
    obtain ⟨ad, e, hc⟩ := h.at_ (by omega)
    refine ⟨ad, e, fun j hj => ?_⟩
    rw [hc j (by omega)]
    simp [List.getD_eq_getElem?_getD, hj]⟩

/-- the weights that count: the first n, or all and one more, which is nought -/
def padL (xs : List Nat) (n : Int) : List Nat := if n ≤ xs.length then xs.take n.toNat else xs ++ [0]
def heavyV (xs : List Nat) (n : Int) : Int := if n < 1 then -1 else max (bestV (padL xs n) 1).2 0

theorem max0 (x : Int) : (if (0 : Int) > x then 0 else x) = max x 0 := by omega

set_option maxHeartbeats 1000000 in
set_option maxRecDepth 100000 in
theorem heavy_c (A : Option Addr) (k c : Nat) (xs : List Nat) (n : Int) (w : World) (h : Fs w A k xs) (hkc : k ≤ c) (hA : A = none → k = 0 ∧ c = 0) (hk : k ≤ 17592186044300) (hn : n ≤ 9223372036854775807) :
    Calls Try.prog 59 #[.slice A k c, .int .i64 n] w fun e w' => e = .returned (.int .i64 (heavyV xs n)) ∧ Below w.heap.size w w' := by
  obtain ⟨i0, hi, hz0, hz1, hz2⟩ := info_parts infoF
  have HL := Lib.hid h.len
  by_cases h1 : n < 1
  · have HV : Hid (heavyV xs n = -1) := Lib.hid (if_pos h1)
    clear h hA hkc
    go_enter Try.func59, Try.ntmps59
    go_wp2
    go_ret
    exact ⟨by rw [HV.out]; rfl, Below.refl _ _⟩
  · by_cases h2 : n < (k : Int)
    · obtain ⟨m, rfl⟩ : ∃ m : Nat, n = (m : Int) := ⟨n.toNat, by omega⟩
      have HV : Hid (heavyV xs m = max (bestV (xs.take m) 1).2 0) := Lib.hid (by
        unfold heavyV padL
        rw [if_neg h1, if_pos (by rw [h.len]; omega), Int.toNat_natCast])
      have hmc : m ≤ c := by omega
      have hcut := fs_upto A k c m (by omega)
      have C := Lib.hid (cloneF_c A m c (xs.take m) w (h.take m (by omega)) (fun e => by have := hA e; omega) (by omega))
      have HBT : Hid (∀ x ∈ xs.take m, x < 18446744073709551616) := Lib.hid (h.take m (by omega)).bits
      clear h hA hkc
      go_enter Try.func59, Try.ntmps59
      go_wp2_with (go_at_call 99; refine C.out.mono ?_; rintro e w1 ⟨v, rfl, hown, hb⟩; obtain ⟨A2, c2, rfl, hF, hcap, hA2⟩ := owned_fs hown HBT.out (by omega); have HF := Lib.hid hF; have HO := Lib.hid hown; have HB := Lib.hid hb; clear hF hA2 hown hb)
      have CM := Lib.hid (most_c A2 m c2 (xs.take m) w1 HF.out)
      obtain ⟨y, hy⟩ : ∃ y, bestV (xs.take m) 1 = y := ⟨_, rfl⟩
      rw [hy] at CM HV
      clear hy
      obtain ⟨y1, y2⟩ := y
      have HV : Hid (heavyV xs _ = max y2 0) := HV
      by_cases g : (0 : Int) > y2
      · have HM := Lib.hid (show max y2 0 = 0 by omega)
        go_wp2_with (go_at_call 35; refine CM.out.mono ?_; rintro e w2 ⟨rfl, rfl⟩)
        go_ret
        exact ⟨by rw [HV.out, HM.out]; rfl, HB.out⟩
      · have HM := Lib.hid (show max y2 0 = y2 by omega)
        go_wp2_with (go_at_call 35; refine CM.out.mono ?_; rintro e w2 ⟨rfl, rfl⟩)
        go_ret
        exact ⟨by rw [HV.out, HM.out]; rfl, HB.out⟩
    · by_cases h3 : n = (k : Int)
      · subst h3
        have HV : Hid (heavyV xs k = max (bestV (xs.take k) 1).2 0) := Lib.hid (by
          unfold heavyV padL
          rw [if_neg h1, if_pos (by rw [h.len]; omega), Int.toNat_natCast])
        have hmc : k ≤ c := by omega
        have hcut := fs_upto A k c k (by omega)
        have C := Lib.hid (cloneF_c A k c (xs.take k) w (h.take k (by omega)) (fun e => by have := hA e; omega) (by omega))
        have HBT : Hid (∀ x ∈ xs.take k, x < 18446744073709551616) := Lib.hid (h.take k (by omega)).bits
        clear h hA hkc
        go_enter Try.func59, Try.ntmps59
        go_wp2_with (go_at_call 99; refine C.out.mono ?_; rintro e w1 ⟨v, rfl, hown, hb⟩; obtain ⟨A2, c2, rfl, hF, hcap, hA2⟩ := owned_fs hown HBT.out (by omega); have HF := Lib.hid hF; have HO := Lib.hid hown; have HB := Lib.hid hb; clear hF hA2 hown hb)
        have CM := Lib.hid (most_c A2 k c2 (xs.take k) w1 HF.out)
        obtain ⟨y, hy⟩ : ∃ y, bestV (xs.take k) 1 = y := ⟨_, rfl⟩
        rw [hy] at CM HV
        clear hy
        obtain ⟨y1, y2⟩ := y
        have HV : Hid (heavyV xs _ = max y2 0) := HV
        by_cases g : (0 : Int) > y2
        · have HM := Lib.hid (show max y2 0 = 0 by omega)
          go_wp2_with (go_at_call 35; refine CM.out.mono ?_; rintro e w2 ⟨rfl, rfl⟩)
          go_ret
          exact ⟨by rw [HV.out, HM.out]; rfl, HB.out⟩
        · have HM := Lib.hid (show max y2 0 = y2 by omega)
          go_wp2_with (go_at_call 35; refine CM.out.mono ?_; rintro e w2 ⟨rfl, rfl⟩)
          go_ret
          exact ⟨by rw [HV.out, HM.out]; rfl, HB.out⟩
      · have h4 : (k : Int) < n := by omega
        have h5 : ¬ n < (k : Int) := h2
        have HV : Hid (heavyV xs n = max (bestV (xs.take k ++ [0]) 1).2 0) := Lib.hid (by
          unfold heavyV padL
          rw [if_neg h1, if_neg (by rw [h.len]; omega), List.take_of_length_le (Nat.le_of_eq h.len)])
        have hmc : k ≤ c := by omega
        have hcut := fs_upto A k c k (by omega)
        have C := Lib.hid (cloneF_c A k c (xs.take k) w (h.take k (by omega)) (fun e => by have := hA e; omega) (by omega))
        have HBT : Hid (∀ x ∈ xs.take k, x < 18446744073709551616) := Lib.hid (h.take k (by omega)).bits
        clear h hA hkc
        go_enter Try.func59, Try.ntmps59
        go_wp2_with (first
          | (go_at_call 99; refine C.out.mono ?_; rintro e w1 ⟨v, rfl, hown, hb⟩; obtain ⟨A2, c2, rfl, hF, hcap, hA2⟩ := owned_fs hown HBT.out (by omega); have HF := Lib.hid hF; have HO := Lib.hid hown; have HB := Lib.hid hb; clear hF hA2 hown hb)
          | (at_builtin; (refine wpList_append_own _ rfl _ _ 31 rfl w.heap.size 24 i0 (.float .f64 0) 1 8 Try.underlying31 hi hz0 hz1 hz2 rfl (by decide) _ k (flo (xs.take k)) rfl (HO.out.alloc _) ⟨w1.heap.size, 0, none⟩ 1 1 [.float .f64 0] rfl rfl ?c1 ?c2 ?c3 ?c4 ?c5 ?_))
          | go_in)
        case c1 =>
          intro j u hj
          match j, hj with
          | 0, hj => simp at hj; subst hj; exact (Row.new w1 _ [_]).cell 0
        case c2 => intro u hu; simp at hu; subst hu; rfl
        case c3 => unfold maxLen; omega
        case c4 => omega
        case c5 => have := HB.out.size; simp; omega
        intro v' w3 hown' hgrow _
        have HB3 : Hid (Below w.heap.size w w3) := Lib.hid (own_next HB.out HB.out.size HO.out _ hgrow)
        rw [flo_one] at hown'
        obtain ⟨A3, c3, rfl, hF3, _, _⟩ := owned_fs hown' (by
          intro x hx
          rcases List.mem_append.1 hx with hx | hx
          · exact HBT.out x hx
          · rw [List.mem_singleton.1 hx]; decide) (by omega)
        have CM := Lib.hid (most_c A3 (k + 1) c3 (xs.take k ++ [0]) w3 hF3)
        clear hown' hgrow hF3
        obtain ⟨y, hy⟩ : ∃ y, bestV (xs.take k ++ [0]) 1 = y := ⟨_, rfl⟩
        rw [hy] at CM HV
        clear hy
        obtain ⟨y1, y2⟩ := y
        have HV : Hid (heavyV xs _ = max y2 0) := HV
        by_cases g : (0 : Int) > y2
        · have HM := Lib.hid (show max y2 0 = 0 by omega)
          go_wp2_with (go_at_call 35; refine CM.out.mono ?_; rintro e w2 ⟨rfl, rfl⟩)
          go_ret
          exact ⟨by rw [HV.out, HM.out]; rfl, HB3.out⟩
        · have HM := Lib.hid (show max y2 0 = y2 by omega)
          go_wp2_with (go_at_call 35; refine CM.out.mono ?_; rintro e w2 ⟨rfl, rfl⟩)
          go_ret
          exact ⟨by rw [HV.out, HM.out]; rfl, HB3.out⟩
end Go.Proofs.Ytplejggfeehbcaa
