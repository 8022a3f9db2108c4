/-
  figure.Text and the document's: a number's bits as sixteen digits.
-/
import Derived.Test.YtfiimmbpfdpjfaaFigD
import Derived.LoopTactic
namespace Go.Proofs.Ytfiimmbpfdpjfaa
open Go.RowKit
set_option linter.unusedSimpArgs false

def hexb (d : Nat) : UInt8 := if d < 10 then (48 + d).toUInt8 else (87 + d).toUInt8
/-- digit m of sixteen, the highest first -/
def dig (b m : Nat) : Nat := b / 16 ^ (15 - m) % 16
def textL (b : Nat) : List UInt8 := (List.range 16).map fun m => hexb (dig b m)
def textA (b k : Nat) : List Value := (List.range 16).map fun m => .int .u8 (if 16 ≤ m + k then ((hexb (dig b m)).toNat : Int) else 0)
theorem textA_len (b k : Nat) : (textA b k).length = 16 := by simp [textA]
theorem textA_get (b k m : Nat) (h : m < 16) : (textA b k)[m]? = some (.int .u8 (if 16 ≤ m + k then ((hexb (dig b m)).toNat : Int) else 0)) := by
  simp [textA, List.getElem?_range h]
theorem textA_step (b k : Nat) (h : k < 16) : textA b (k + 1) = (textA b k).set (15 - k) (.int .u8 ((hexb (b / 16 ^ k % 16)).toNat : Int)) := by
  apply List.ext_getElem?
  intro m
  by_cases hm : m < 16
  · rw [List.getElem?_set, textA_len]
    by_cases e : 15 - k = m
    · rw [if_pos e, if_pos (by omega), textA_get _ _ _ hm, if_pos (by omega)]
      unfold dig
      rw [show 15 - m = k by omega]
    · rw [if_neg e, textA_get _ _ _ hm, textA_get _ _ _ hm]
      by_cases g : 16 ≤ m + k
      · rw [if_pos g, if_pos (by omega)]
      · rw [if_neg g, if_neg (by omega)]
  · rw [List.getElem?_eq_none (by rw [textA_len]; omega), List.getElem?_eq_none (by rw [List.length_set, textA_len]; omega)]
theorem textA_zero (b : Nat) : textA b 0 = textA 0 0 := by
  apply List.ext_getElem?
  intro m
  by_cases hm : m < 16
  · rw [textA_get _ _ _ hm, textA_get _ _ _ hm, if_neg (by omega), if_neg (by omega)]
  · rw [List.getElem?_eq_none (by rw [textA_len]; omega), List.getElem?_eq_none (by rw [textA_len]; omega)]
theorem textA_all (b : Nat) : textA b 16 = (textL b).map fun c => .int .u8 (c.toNat : Int) := by
  unfold textA textL
  rw [List.map_map]
  apply List.map_congr_left
  intro m _
  rw [if_pos (by omega)]
  rfl

theorem and15 (b k : Nat) (hb : b < 18446744073709551616) : bits .and .u64 ((b : Int) / 2 ^ (4 * k)) 15 = ((b / 16 ^ k % 16 : Nat) : Int) := by
  have e : ((b : Int) / 2 ^ (4 * k)) = ((b / 16 ^ k : Nat) : Int) := by
    rw [show (16 : Nat) ^ k = 2 ^ (4 * k) by rw [Nat.pow_mul]]
    simp
  have hl : b / 16 ^ k < 18446744073709551616 := Nat.lt_of_le_of_lt (Nat.div_le_self _ _) hb
  rw [e, show (15 : Int) = ((15 : Nat) : Int) from rfl, u64_and_nat _ _ hl (by omega)]
  congr 1
  exact Nat.and_two_pow_sub_one_eq_mod _ 4

def hexS : ByteArray := ⟨#[48, 49, 50, 51, 52, 53, 54, 55, 56, 57, 97, 98, 99, 100, 101, 102]⟩
theorem hexS_at (d : Nat) (h : d < 16) : ∀ q : d < (⟨#[48, 49, 50, 51, 52, 53, 54, 55, 56, 57, 97, 98, 99, 100, 101, 102]⟩ : ByteArray).size,
    ((((⟨#[48, 49, 50, 51, 52, 53, 54, 55, 56, 57, 97, 98, 99, 100, 101, 102]⟩ : ByteArray)[d]'q).toNat : Nat) : Int) = ((hexb d).toNat : Int) := by
  have : d = 0 ∨ d = 1 ∨ d = 2 ∨ d = 3 ∨ d = 4 ∨ d = 5 ∨ d = 6 ∨ d = 7 ∨ d = 8 ∨ d = 9 ∨ d = 10 ∨ d = 11 ∨ d = 12 ∨ d = 13 ∨ d = 14 ∨ d = 15 := by omega
  rcases this with rfl | rfl | rfl | rfl | rfl | rfl | rfl | rfl | rfl | rfl | rfl | rfl | rfl | rfl | rfl | rfl <;> intro q <;> rfl

theorem fold_push (l : List UInt8) : ∀ (a : Array UInt8), (l.map fun c => ((c.toNat : Nat) : Int)).foldl (fun r n => r.push (UInt8.ofNat n.toNat)) (⟨a⟩ : ByteArray) = ⟨a ++ l.toArray⟩ := by
  induction l with
  | nil => intro a; simp
  | cons c l ih =>
    intro a
    rw [List.map_cons, List.foldl_cons]
    show List.foldl _ (⟨a.push (UInt8.ofNat ((c.toNat : Int).toNat))⟩ : ByteArray) _ = _
    rw [ih]
    congr 1
    simp

end Go.Proofs.Ytfiimmbpfdpjfaa
