/-
  Plain words for the layer utf: which bytes are letters, digits, blanks, which runes XML takes; small facts on endings. No program in sight.
-/
import Derived.WalkKit
import Derived.PlainAid
import Derived.Lib.DecodeN
import Derived.Lib.RuneCount
namespace Go.Proofs.YtbnhfjhhbgmhfaaDoor
open Go.RowKit Go.PlainAid

theorem ret_bool {a b : Bool} (h : a = b) : Ending.returned (.bool a) = .returned (.bool b) := by rw [h]
theorem ret_int {k : IntKind} {a b : Int} (h : a = b) : Ending.returned (.int k a) = .returned (.int k b) := by rw [h]

def bLetter (b : Int) : Bool := decide ((97 ≤ b ∧ b ≤ 122) ∨ (65 ≤ b ∧ b ≤ 90))
def bDigit (b : Int) : Bool := decide (48 ≤ b ∧ b ≤ 57)
def bStart (b : Int) : Bool := decide ((97 ≤ b ∧ b ≤ 122) ∨ (65 ≤ b ∧ b ≤ 90) ∨ b = 95)
def bByte (b : Int) : Bool := decide ((97 ≤ b ∧ b ≤ 122) ∨ (65 ≤ b ∧ b ≤ 90) ∨ b = 95 ∨ (48 ≤ b ∧ b ≤ 57) ∨ b = 45 ∨ b = 46)
def bBlank (b : Int) : Bool := decide (b = 9 ∨ b = 10 ∨ b = 13 ∨ b = 32)
def rChar (r : Int) : Bool := decide (r = 9 ∨ r = 10 ∨ r = 13 ∨ (32 ≤ r ∧ r ≤ 55295) ∨ (57344 ≤ r ∧ r ≤ 65533) ∨ (65536 ≤ r ∧ r ≤ 1114111))

theorem bStart_eq (b : Int) : bStart b = (bLetter b || b == 95) := by
  rw [Bool.eq_iff_iff]; simp [bStart, bLetter]; omega
theorem bByte_eq (b : Int) : bByte b = (bStart b || bDigit b || b == 45 || b == 46) := by
  rw [Bool.eq_iff_iff]; simp [bStart, bByte, bDigit]; omega

theorem or32_all : ∀ n : Fin 256, (decide (97 ≤ bits .or .u8 (n.val : Int) 32) && decide (bits .or .u8 (n.val : Int) 32 ≤ 122)) = bLetter (n.val : Int) := by
  decide +kernel
theorem or32 (b : Int) (h0 : 0 ≤ b) (h1 : b < 256) : (decide (97 ≤ bits .or .u8 b 32) && decide (bits .or .u8 b 32 ≤ 122)) = bLetter b := by
  have := or32_all ⟨b.toNat, by omega⟩
  simpa [Int.toNat_of_nonneg h0] using this

theorem and192_all : ∀ n : Fin 256, bits .and .u8 (n.val : Int) 192 = (n.val : Int) / 64 * 64 := by decide +kernel
theorem and192 (s : ByteArray) (k : Nat) : bits .and .u8 (bt s k) 192 = bt s k / 64 * 64 := by
  have h0 := bt_nonneg s k
  have h1 := bt_le s k
  have := and192_all ⟨(bt s k).toNat, by omega⟩
  simpa [Int.toNat_of_nonneg h0] using this
theorem ne128 (s : ByteArray) (k : Nat) : (bt s k / 64 * 64 != 128) = decide (bt s k < 128 ∨ 191 < bt s k) := by
  rw [Bool.eq_iff_iff]; simp; omega

/-- The reference's own reading of the form that begins at a place: n bytes are left, the next four (0 behind the end). -/
def formI (n : Nat) (b0 b1 b2 b3 : Int) : Int × Int :=
  if b0 < 128 then (b0, 1)
  else if 194 ≤ b0 ∧ b0 ≤ 223 then
    (if 2 ≤ n ∧ b1 / 64 = 2 then (b0 % 32 * 64 + b1 % 64, 2) else (-1, 1))
  else if 224 ≤ b0 ∧ b0 ≤ 239 then
    (if 3 ≤ n ∧ b1 / 64 = 2 ∧ b2 / 64 = 2 ∧ 2048 ≤ (b0 % 16 * 64 + b1 % 64) * 64 + b2 % 64 ∧ ((b0 % 16 * 64 + b1 % 64) * 64 + b2 % 64 < 55296 ∨ 57343 < (b0 % 16 * 64 + b1 % 64) * 64 + b2 % 64)
      then ((b0 % 16 * 64 + b1 % 64) * 64 + b2 % 64, 3) else (-1, 1))
  else if 240 ≤ b0 ∧ b0 ≤ 244 then
    (if 4 ≤ n ∧ b1 / 64 = 2 ∧ b2 / 64 = 2 ∧ b3 / 64 = 2 ∧ 65536 ≤ ((b0 % 8 * 64 + b1 % 64) * 64 + b2 % 64) * 64 + b3 % 64 ∧ ((b0 % 8 * 64 + b1 % 64) * 64 + b2 % 64) * 64 + b3 % 64 ≤ 1114111
      then (((b0 % 8 * 64 + b1 % 64) * 64 + b2 % 64) * 64 + b3 % 64, 4) else (-1, 1))
  else (-1, 1)
def formS (s : ByteArray) (i : Nat) : Int × Int := formI (s.size - i) (bt s i) (bt s (i + 1)) (bt s (i + 2)) (bt s (i + 3))
def formZ (s : ByteArray) (i : Int) : Int × Int := if i < 0 ∨ (s.size : Int) ≤ i then (-1, 0) else formS s i.toNat

theorem ret2 {a b c d : Int} {k l : IntKind} (h1 : a = c) (h2 : b = d) : Ending.returned (.tuple #[.int k a, .int l b]) = .returned (.tuple #[.int k c, .int l d]) := by rw [h1, h2]
theorem ret2p {a b : Int} {p : Int × Int} {k l : IntKind} (h : p = (a, b)) : Ending.returned (.tuple #[.int k a, .int l b]) = .returned (.tuple #[.int k p.1, .int l p.2]) := by rw [h]

theorem get!_bt (s : ByteArray) (k : Nat) : ((s.get! k).toNat : Int) = bt s k := by
  by_cases h : k < s.size
  · rw [← get_bt s k h]
    cases s with
    | mk d => exact congrArg (fun b : UInt8 => (b.toNat : Int)) (getElem!_pos d k h)
  · rw [bt_end s (by omega)]
    cases s with
    | mk d => exact congrArg (fun b : UInt8 => (b.toNat : Int)) (getElem!_neg d k h)

/-- What 'At' makes of the model's decoder: the rune and the width; a broken byte: -1 and 1. -/
def broke (d : Nat × Nat) : Int × Int := if d.1 = 65533 ∧ d.2 = 1 then (-1, 1) else (d.1, d.2)

set_option maxRecDepth 100000 in
set_option maxHeartbeats 4000000 in
theorem broke_decodeN (n b0 b1 b2 b3 : Nat) (h0 : b0 < 256) :
    broke (Lib.decodeN n b0 b1 b2 b3) = formI n b0 b1 b2 b3 := by
  unfold broke Lib.decodeN formI
  repeat' split
  all_goals first | (exfalso; omega) | (apply Prod.ext <;> simp only <;> omega) | (simp_all; done) | (simp_all; omega)

theorem broke_decode (s : ByteArray) (i : Nat) : broke (Utf8.decode s i) = formS s i := by
  rw [Lib.decode_at, broke_decodeN _ _ _ _ _ (s.get! i).toNat_lt, get!_bt, get!_bt, get!_bt, get!_bt]
  rfl
end Go.Proofs.YtbnhfjhhbgmhfaaDoor
