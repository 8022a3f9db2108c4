/-
  figure.Read and the document's Text and Read.
-/
import Derived.Test.YtplejggfeehbcaaHex
import Derived.Lib.SlBytesConst
import Derived.LoopTactic
namespace Go.Proofs.Ytplejggfeehbcaa
open Go.RowKit
set_option linter.unusedSimpArgs false

def hexL : List UInt8 := [48, 49, 50, 51, 52, 53, 54, 55, 56, 57, 97, 98, 99, 100, 101, 102]
/-- where a byte stands among the digits; -1: nowhere -/
def hvI (c : UInt8) : Int := match hv c with | some d => d | none => -1
theorem hexL_at (c : UInt8) : (∀ d, hv c = some d → hexL.getD d 0 = c ∧ ∀ j, j < d → hexL.getD j 0 ≠ c) ∧ (hv c = none → ∀ j, j < 16 → hexL.getD j 0 ≠ c) := by
  have key : ∀ d, d < 16 → hexL.getD d 0 = hexb d := by decide
  have inj : ∀ d, d < 16 → ∀ j, j < d → hexb j ≠ hexb d := by decide
  refine ⟨fun d h => ?_, fun h j hj e => ?_⟩
  · have hd := hv_lt h
    have hh := hexb_hv h
    refine ⟨by rw [key d hd, hh], fun j hj => ?_⟩
    rw [key j (by omega), ← hh]
    exact inj d hd j hj
  · rw [key j hj] at e
    rw [← e, hv_hexb j hj] at h
    cases h

set_option maxHeartbeats 1000000 in
/-- slices.Index of the digits -/
theorem index_c (b : Nat) (c : UInt8) (w : World) (h : ∀ j, j < 16 → w.cell? ⟨b, j, none⟩ = some (.int .u8 ((hexL.getD j 0).toNat : Int))) (cap : Nat) :
    Calls Try.prog 94 #[.slice (some ⟨b, 0, none⟩) 16 cap, .int .u8 (c.toNat : Int)] w fun e w' => e = .returned (.int .i64 (hvI c)) ∧ w = w' := by
  have HC := Lib.hid h
  have HX := Lib.hid (hexL_at c)
  clear h
  go_enter Try.func94, Try.ntmps94
  go_wp2
  go_loop [8] (fun i => ∃ k : Nat, k ≤ 16 ∧ i = .int .i64 k ∧ ∀ j, j < k → hexL.getD j 0 ≠ c) (fun i => 16 - (intOf i).toNat)
  case atStart => exact ⟨0, by omega, rfl, fun j hj => by omega⟩
  case round =>
    obtain ⟨k, hk, rfl, hne⟩ := hrel
    have HN := Lib.hid hne
    clear hne
    by_cases hlt : k < 16
    · have cx := HC.out k hlt
      by_cases e : hexL.getD k 0 = c
      · have hv2 : hvI c = k := by
          unfold hvI
          cases hh : hv c with
          | none => exact absurd e (HX.out.2 hh k hlt)
          | some d =>
            have h1 := HX.out.1 d hh
            have h2 := hv_lt hh
            rcases Nat.lt_trichotomy d k with g | g | g
            · exact absurd h1.1 (HN.out d g)
            · rw [g]
            · exact absurd e (h1.2 k g)
        rw [e] at cx
        have HV := Lib.hid hv2
        clear hv2 e
        go_wp2
        go_ret
        exact ⟨by rw [HV.out]; rfl, rfl⟩
      · have e1 : (((c.toNat : Nat) : Int) == ((hexL.getD k 0).toNat : Int)) = false := by
          rw [beq_eq_false_iff_ne]
          intro h
          exact e (UInt8.toNat_inj.1 (by omega))
        have HE := Lib.hid e
        clear e
        generalize (hexL.getD k 0).toNat = y at *
        go_wp2
        go_round
        case rel =>
          refine ⟨k + 1, by omega, by go_num, fun j hj => ?_⟩
          by_cases ej : j = k
          · rw [ej]; exact HE.out
          · exact HN.out j (by omega)
        case measure => simp [intOf]; omega
    · have hk16 : k = 16 := by omega
      subst hk16
      have hv2 : hvI c = -1 := by
        unfold hvI
        cases hh : hv c with
        | none => rfl
        | some d => exact absurd (HX.out.1 d hh).1 (HN.out d (hv_lt hh))
      have HV := Lib.hid hv2
      clear hv2
      go_wp2
      go_ret
      exact ⟨by rw [HV.out]; rfl, rfl⟩

theorem hex_piece (d : Nat) (h : d < 16) : (⟨#[48, 49, 50, 51, 52, 53, 54, 55, 56, 57, 97, 98, 99, 100, 101, 102]⟩ : ByteArray).extract d (d + 1) = ⟨#[hexb d]⟩ := by
  have : d = 0 ∨ d = 1 ∨ d = 2 ∨ d = 3 ∨ d = 4 ∨ d = 5 ∨ d = 6 ∨ d = 7 ∨ d = 8 ∨ d = 9 ∨ d = 10 ∨ d = 11 ∨ d = 12 ∨ d = 13 ∨ d = 14 ∨ d = 15 := by omega
  rcases this with rfl | rfl | rfl | rfl | rfl | rfl | rfl | rfl | rfl | rfl | rfl | rfl | rfl | rfl | rfl | rfl <;> rfl
theorem text_more (b k d : Nat) (hk : k < 16) (hd : b / 16 ^ k % 16 = d) :
    (⟨#[48, 49, 50, 51, 52, 53, 54, 55, 56, 57, 97, 98, 99, 100, 101, 102]⟩ : ByteArray).extract d (d + 1) ++ ⟨((textL b).drop (16 - k)).toArray⟩ = ⟨((textL b).drop (16 - (k + 1))).toArray⟩ := by
  rw [hex_piece d (by omega)]
  have hl : (textL b).length = 16 := by simp [textL]
  have hg : (textL b)[16 - (k + 1)]'(by omega) = hexb d := by
    have : (textL b)[16 - (k + 1)]? = some (hexb (dig b (16 - (k + 1)))) := by
      unfold textL
      rw [List.getElem?_map, List.getElem?_range (by omega)]
      rfl
    rw [List.getElem?_eq_getElem (by omega)] at this
    have h2 := Option.some.inj this
    rw [h2]
    unfold dig
    rw [show 15 - (16 - (k + 1)) = k by omega, hd]
  rw [List.drop_eq_getElem_cons (i := 16 - (k + 1)) (by omega), hg, show 16 - (k + 1) + 1 = 16 - k by omega]
  rfl

set_option maxHeartbeats 1000000 in
theorem refText_c (x : Nat) (hx : x < 18446744073709551616) (w : World) :
    Calls Try.prog 41 #[.float .f64 x] w fun e w' => e = .returned (.string ⟨(textL (onev x)).toArray⟩) ∧ w = w' := by
  have hbl := onev_lt hx
  obtain ⟨b, hb⟩ : ∃ b, onev x = b := ⟨_, rfl⟩
  rw [hb] at hbl ⊢
  have CO := Lib.hid (refOne_c x)
  rw [hb] at CO
  clear hb hx
  go_enter Try.func41, Try.ntmps41
  go_wp2_with (go_at_call 28; refine (CO.out _).mono ?_; rintro e w' ⟨rfl, rfl⟩)
  go_loop [3, 4, 5] (fun u s i => ∃ k : Nat, k ≤ 16 ∧ i = .int .i64 k ∧ u = .int .u64 ((b / 16 ^ k : Nat) : Int) ∧ s = .string ⟨((textL b).drop (16 - k)).toArray⟩) (fun _ _ i => 16 - (intOf i).toNat)
  case atStart => exact ⟨0, by omega, rfl, by simp, by simp [textL]⟩
  case round =>
    obtain ⟨k, hk, rfl, rfl, rfl⟩ := hrel
    by_cases hlt : k < 16
    · have hd16 : b / 16 ^ k % 16 < 16 := by omega
      obtain ⟨d, hd⟩ : ∃ d, b / 16 ^ k % 16 = d := ⟨_, rfl⟩
      obtain ⟨q, hq⟩ : ∃ q, b / 16 ^ k = q := ⟨_, rfl⟩
      rw [hd] at hd16
      rw [hq] at hd
      have hqb : q < 18446744073709551616 := by rw [← hq]; exact Nat.lt_of_le_of_lt (Nat.div_le_self _ _) hbl
      simp only [hq]
      have HQ := Lib.hid hq
      have HD := Lib.hid hd
      clear hq hd
      obtain ⟨S, hS⟩ : ∃ S : ByteArray, (⟨((textL b).drop (16 - k)).toArray⟩ : ByteArray) = S := ⟨_, rfl⟩
      have hSl : S.size ≤ 16 := by
        rw [← hS]
        show ((textL b).drop (16 - k)).toArray.size ≤ 16
        simp [textL]
      simp only [hS]
      have HS := Lib.hid hS
      clear hS
      go_wp2
      go_round
      case rel =>
        refine ⟨k + 1, by omega, by go_num, ?_, ?_⟩
        · have e : ((q : Int) / 16) = ((b / 16 ^ (k + 1) : Nat) : Int) := by
            rw [Nat.pow_succ, ← Nat.div_div_eq_div_mul, HQ.out]
            omega
          rw [e]
        · rw [← HS.out, HD.out]
          exact congrArg _ (text_more b k d hlt (by rw [HQ.out]; exact HD.out))
      case measure => simp [intOf]; omega
    · have hk16 : k = 16 := by omega
      subst hk16
      go_wp2
      go_ret
      exact ⟨by simp, rfl⟩

theorem readV_some {l : List UInt8} (hl : l.length = 16) {b : Nat} (h : rdk l 16 = some b) : readV l = if onev b = b then (b, true) else (0, false) := by
  unfold readV
  rw [if_pos hl, h]
theorem readV_none {l : List UInt8} (h : rdk l 16 = none) : readV l = (0, false) := by
  unfold readV
  split
  · rw [h]
  · rfl
theorem readV_short {l : List UInt8} (hl : ¬ l.length = 16) : readV l = (0, false) := by
  unfold readV
  rw [if_neg hl]
theorem rdk_step {l : List UInt8} {k b d : Nat} (h : rdk l k = some b) (hd : hv (l.getD k 0) = some d) : rdk l (k + 1) = some (16 * b + d) := by
  unfold rdk; rw [h, hd]
theorem rdk_stop {l : List UInt8} {k : Nat} (hd : hv (l.getD k 0) = none) : rdk l (k + 1) = none := by
  unfold rdk
  rw [hd]
  split
  · rename_i h1; cases h1
  · rfl
def hexC : Array Value := #[.int .u8 48, .int .u8 49, .int .u8 50, .int .u8 51, .int .u8 52, .int .u8 53, .int .u8 54, .int .u8 55, .int .u8 56, .int .u8 57, .int .u8 97, .int .u8 98, .int .u8 99, .int .u8 100, .int .u8 101, .int .u8 102]
theorem hexC_at (w : World) (m : Nat × Nat) (j : Nat) (h : j < 16) : (w.alloc (.cells hexC 5 m)).cell? ⟨w.heap.size, j, none⟩ = some (.int .u8 ((hexL.getD j 0).toNat : Int)) := by
  have e : (w.alloc (.cells hexC 5 m)).heap[w.heap.size]? = some (.cells hexC 5 m) := by
    show (w.heap.push _)[w.heap.size]? = _
    rw [Array.getElem?_push, if_pos rfl]
  unfold World.cell?
  rw [e]
  have : j = 0 ∨ j = 1 ∨ j = 2 ∨ j = 3 ∨ j = 4 ∨ j = 5 ∨ j = 6 ∨ j = 7 ∨ j = 8 ∨ j = 9 ∨ j = 10 ∨ j = 11 ∨ j = 12 ∨ j = 13 ∨ j = 14 ∨ j = 15 := by omega
  rcases this with rfl | rfl | rfl | rfl | rfl | rfl | rfl | rfl | rfl | rfl | rfl | rfl | rfl | rfl | rfl | rfl <;> rfl
theorem byte_at (s : ByteArray) (k : Nat) (h : k < s.size) : (s[k]'h) = s.data.toList.getD k 0 := by
  have h' : k < s.data.toList.length := by rw [Array.length_toList]; exact h
  rw [List.getD_eq_getElem?_getD, List.getElem?_eq_getElem h']
  rfl
theorem or4 (b d : Nat) (hd : d < 16) (hb : 16 * b + d < 18446744073709551616) : bits .or .u64 ((b : Int) * 16) (d : Int) = ((16 * b + d : Nat) : Int) := by
  rw [show ((b : Int) * 16) = ((16 * b : Nat) : Int) by omega, u64_or_nat _ _ (by omega) (by omega)]
  congr 1
  exact (Nat.two_pow_add_eq_or_of_lt (i := 4) hd b).symm

/-- the error of figure.Read -/
def errOf (b : Bool) : Int := if b = true then 0 else 11

set_option maxHeartbeats 1000000 in
theorem read_c (s : ByteArray) (w : World) :
    Calls Try.prog 42 #[.string s] w fun e w' => e = .returned (.tuple #[.float .f64 (readV s.data.toList).1, .int .i64 (errOf (readV s.data.toList).2)]) ∧ Below w.heap.size w w' := by
  by_cases h16 : s.data.toList.length = 16
  · have hsz : s.size = 16 := by rw [← h16, Array.length_toList]; rfl
    have e0 : ((s.size : Int) != 16) = false := by rw [bne_eq_false_iff_eq]; omega
    have HZ := Lib.hid hsz
    have HL := Lib.hid h16
    have hz1 : (s.size : Int) ≤ 16 := by omega
    have hz2 : 16 ≤ (s.size : Int) := by omega
    have hz3 : 16 ≤ s.size := by omega
    clear hsz h16
    have kc := fun (w : World) (C : Array Value) (n c : Nat) => Lib.run_convert_bytes_const (P := Try.prog) w 98 5 C n c Try.underlying98 Try.underlying5
    go_enter Try.func42, Try.ntmps42
    go_wp2
    go_loopw [4, 11] (fun u i wr => ∃ (k b : Nat), k ≤ 16 ∧ i = .int .i64 k ∧ u = .int .u64 b ∧ rdk s.data.toList k = some b ∧ Below w.heap.size w wr) (fun _ i _ => 16 - (intOf i).toNat)
    case atStart => exact ⟨0, 0, by omega, rfl, rfl, rfl, Below.refl _ _⟩
    case round =>
      obtain ⟨k, b, hk, rfl, rfl, hr, hB⟩ := hrel
      have HR := Lib.hid hr
      have HB := Lib.hid hB
      have hbl := rdk_lt hr
      clear hr hB
      by_cases hlt : k < 16
      · have hb60 : b < 1152921504606846976 := by
          have : 16 ^ k ≤ 16 ^ 15 := Nat.pow_le_pow_right (by omega) (by omega)
          have e : (16 : Nat) ^ 15 = 1152921504606846976 := by decide
          omega
        obtain ⟨cb, hcb⟩ : ∃ cb, s.data.toList.getD k 0 = cb := ⟨_, rfl⟩
        have hs : ∀ h : k < s.size, (s[k]'h) = cb := fun h => by rw [byte_at s k h, hcb]
        have CI := Lib.hid (index_c wr.heap.size cb (wr.alloc (.cells hexC 5 (16, 17))) (fun j hj => hexC_at wr _ j hj) 16)
        have HCB := Lib.hid hcb
        clear hcb hbl
        cases hh : hv cb with
        | none =>
          have hi : hvI cb = -1 := by unfold hvI; rw [hh]
          rw [hi] at CI
          have HV := Lib.hid (readV_none (rdk_none (rdk_stop (l := s.data.toList) (k := k) (by rw [HCB.out]; exact hh)) 16 (by omega)))
          clear hi hh
          go_wp2_with (go_at_call 94; refine CI.out.mono ?_; rintro e w' ⟨rfl, rfl⟩)
          go_ret2
          exact ⟨by rw [HV.out]; rfl, HB.out.alloc HB.out.size _⟩
        | some d =>
          have hd := hv_lt hh
          have hi : hvI cb = d := by unfold hvI; rw [hh]
          rw [hi] at CI
          have HS := Lib.hid (rdk_step HR.out (show hv (s.data.toList.getD k 0) = some d by rw [HCB.out]; exact hh))
          have hor := or4 b d hd (by omega)
          clear hi hh
          go_wp2_with (go_at_call 94; refine CI.out.mono ?_; rintro e w' ⟨rfl, rfl⟩)
          go_roundw
          case rel => exact ⟨k + 1, 16 * b + d, by omega, by go_num, rfl, HS.out, HB.out.alloc HB.out.size _⟩
          case measure => simp [intOf]; omega
      · have hk16 : k = 16 := by omega
        subst hk16
        have hb64 : b < 18446744073709551616 := by rw [show (18446744073709551616 : Nat) = 16 ^ 16 by decide]; exact hbl
        have hv2 := readV_some HL.out HR.out
        clear hbl hlt
        cases hn : Fl.nan b with
        | false =>
          have he : (Fl.F.order b b != some .eq) = false := by rw [Fl.neq_self, hn]
          have ho : onev b = b := by unfold onev; rw [hn]; rfl
          have HV := Lib.hid (hv2.trans (if_pos ho))
          clear hn hv2 ho
          go_wp2
          go_ret2
          exact ⟨by rw [HV.out]; rfl, HB.out⟩
        | true =>
          have he : (Fl.F.order b b != some .eq) = true := by rw [Fl.neq_self, hn]
          have CO := Lib.hid (one_c b)
          by_cases ho : onev b = b
          · have HV := Lib.hid (hv2.trans (if_pos ho))
            rw [ho] at CO
            have e1 : ((b : Int) != (b : Int)) = false := by simp
            clear hn hv2 ho
            go_wp2_with (go_at_call 27; refine (CO.out _).mono ?_; rintro e w' ⟨rfl, rfl⟩)
            go_ret2
            exact ⟨by rw [HV.out]; rfl, HB.out⟩
          · have HV := Lib.hid (hv2.trans (if_neg ho))
            obtain ⟨o, hoo⟩ : ∃ o, onev b = o := ⟨_, rfl⟩
            rw [hoo] at CO ho
            have e1 : ((o : Int) != (b : Int)) = true := by rw [bne_iff_ne]; omega
            clear hn hv2 ho hoo
            go_wp2_with (go_at_call 27; refine (CO.out _).mono ?_; rintro e w' ⟨rfl, rfl⟩)
            go_ret2
            exact ⟨by rw [HV.out]; rfl, HB.out⟩
  · have hsz : ¬ s.size = 16 := fun e => h16 (by rw [Array.length_toList]; exact e)
    have e0 : ((s.size : Int) != 16) = true := by rw [bne_iff_ne]; omega
    have HV := Lib.hid (readV_short h16)
    clear hsz h16
    go_enter Try.func42, Try.ntmps42
    go_wp2
    go_ret2
    exact ⟨by rw [HV.out]; rfl, Below.refl _ _⟩
end Go.Proofs.Ytplejggfeehbcaa
