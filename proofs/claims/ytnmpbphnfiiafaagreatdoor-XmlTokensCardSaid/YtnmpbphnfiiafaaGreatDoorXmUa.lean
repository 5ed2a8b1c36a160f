/-
  Laws and contracts taken over from earlier texts (cut out by a program of this seat's own, slice.py), as far as this seat needs them.
-/
import Derived.WalkKit
import Derived.PlainAid
import Derived.Lib.DecodeN
import Derived.Lib.RuneCount
import Derived.Laws.RangeAny
import Derived.WalkSpells
import Derived.WalkLawsBesides
import Derived.Lib.Hide
import Derived.Handy
import Derived.Laws.BitsLemmas
import Derived.Shelf.Strings.SlTrimAscii
import Derived.Laws.RangeString
import Derived.Lib.ConvBytes
import Derived.Lib.SlBytesRow
import Derived.Deep.RegionWith
import Derived.RegionTactic
import Derived.WalkSmall
import Derived.Below
import Derived.Lib.SmallJoins
import Derived.Deep.OwnRows
import Derived.Lib.Strings
import Derived.Lib.BufferRead
import Derived.Lib.RepeatB
import Derived.Deep.QuietTactic
import Derived.BigQuiet
import Derived.Outline
import Derived.IntWalk
import Derived.Deep.Cut
import Derived.Deep.DeepCutAuto
import Derived.ScopeJumps
import Derived.Deep.RegionHeld3
import Derived.Lib.OthersKept
import Derived.Deep.LoopGhost
import Derived.StillTailTactics
import Derived.Lib.AppendIntMem
import Derived.Lib.ItoaMem
import Derived.BigCall
import Derived.BigGuard
import Derived.Deep.RegionLawGrows
import Derived.ChangeAlike
import Derived.Deep.AppendLies
import Derived.Deep.RegionHeldLaw
import Derived.Test.YtnmpbphnfiiafaaGreatDoorRows
import Derived.Test.YtnmpbphnfiiafaaGreatDoorShelf
namespace Go.Proofs.YtnmpbphnfiiafaaGreatDoor
section
open Go.RowKit
theorem lt_some {w : World} {k : Nat} {o : Obj} (h : w.heap[k]? = some o) : k < w.heap.size := (Array.getElem?_eq_some_iff.1 h).1
theorem bdN0 {B : Nat} {a w : World} (h : Below B a w) (n : Nat) : Below B a (w.drewN n) := ⟨h.os, h.tape, h.output, h.size, h.block⟩
end
section
open Go.RowKit Go.PlainAid
theorem ret_bool {a b : Bool} (h : a = b) : Ending.returned (.bool a) = .returned (.bool b) := by rw [h]

theorem ret_int {k : IntKind} {a b : Int} (h : a = b) : Ending.returned (.int k a) = .returned (.int k b) := by rw [h]

def bLetter (b : Int) : Bool := decide ((97 ≤ b ∧ b ≤ 122) ∨ (65 ≤ b ∧ b ≤ 90))

def bDigit (b : Int) : Bool := decide (48 ≤ b ∧ b ≤ 57)

def bStart (b : Int) : Bool := decide ((97 ≤ b ∧ b ≤ 122) ∨ (65 ≤ b ∧ b ≤ 90) ∨ b = 95)

def bByte (b : Int) : Bool := decide ((97 ≤ b ∧ b ≤ 122) ∨ (65 ≤ b ∧ b ≤ 90) ∨ b = 95 ∨ (48 ≤ b ∧ b ≤ 57) ∨ b = 45 ∨ b = 46)

def bBlank (b : Int) : Bool := decide (b = 9 ∨ b = 10 ∨ b = 13 ∨ b = 32)

def rChar (r : Int) : Bool := decide (r = 9 ∨ r = 10 ∨ r = 13 ∨ (32 ≤ r ∧ r ≤ 55295) ∨ (57344 ≤ r ∧ r ≤ 65533) ∨ (65536 ≤ r ∧ r ≤ 1114111))

theorem bStart_eq (b : Int) : bStart b = (bLetter b || b == 95) := by
  rw [Bool.eq_iff_iff]; simp [bStart, bLetter]; omega

theorem bByte_eq (b : Int) : bByte b = (bStart b || bDigit b || b == 45 || b == 46) := by
  rw [Bool.eq_iff_iff]; simp [bStart, bByte, bDigit]; omega

theorem or32_all : ∀ n : Fin 256, (decide (97 ≤ bits .or .u8 (n.val : Int) 32) && decide (bits .or .u8 (n.val : Int) 32 ≤ 122)) = bLetter (n.val : Int) := by
  decide +kernel

theorem or32 (b : Int) (h0 : 0 ≤ b) (h1 : b < 256) : (decide (97 ≤ bits .or .u8 b 32) && decide (bits .or .u8 b 32 ≤ 122)) = bLetter b := by
  have := or32_all ⟨b.toNat, by omega⟩
  simpa [Int.toNat_of_nonneg h0] using this

theorem and192_all : ∀ n : Fin 256, bits .and .u8 (n.val : Int) 192 = (n.val : Int) / 64 * 64 := by decide +kernel

theorem and192 (s : ByteArray) (k : Nat) : bits .and .u8 (bt s k) 192 = bt s k / 64 * 64 := by
  have h0 := bt_nonneg s k
  have h1 := bt_le s k
  have := and192_all ⟨(bt s k).toNat, by omega⟩
  simpa [Int.toNat_of_nonneg h0] using this

theorem ne128 (s : ByteArray) (k : Nat) : (bt s k / 64 * 64 != 128) = decide (bt s k < 128 ∨ 191 < bt s k) := by
  rw [Bool.eq_iff_iff]; simp; omega

/-- The reference's own reading of the form that begins at a place: n bytes are left, the next four (0 behind the end). -/
def formI (n : Nat) (b0 b1 b2 b3 : Int) : Int × Int :=
  if b0 < 128 then (b0, 1)
  else if 194 ≤ b0 ∧ b0 ≤ 223 then
    (if 2 ≤ n ∧ b1 / 64 = 2 then (b0 % 32 * 64 + b1 % 64, 2) else (-1, 1))
  else if 224 ≤ b0 ∧ b0 ≤ 239 then
    (if 3 ≤ n ∧ b1 / 64 = 2 ∧ b2 / 64 = 2 ∧ 2048 ≤ (b0 % 16 * 64 + b1 % 64) * 64 + b2 % 64 ∧ ((b0 % 16 * 64 + b1 % 64) * 64 + b2 % 64 < 55296 ∨ 57343 < (b0 % 16 * 64 + b1 % 64) * 64 + b2 % 64)
      then ((b0 % 16 * 64 + b1 % 64) * 64 + b2 % 64, 3) else (-1, 1))
  else if 240 ≤ b0 ∧ b0 ≤ 244 then
    (if 4 ≤ n ∧ b1 / 64 = 2 ∧ b2 / 64 = 2 ∧ b3 / 64 = 2 ∧ 65536 ≤ ((b0 % 8 * 64 + b1 % 64) * 64 + b2 % 64) * 64 + b3 % 64 ∧ ((b0 % 8 * 64 + b1 % 64) * 64 + b2 % 64) * 64 + b3 % 64 ≤ 1114111
      then (((b0 % 8 * 64 + b1 % 64) * 64 + b2 % 64) * 64 + b3 % 64, 4) else (-1, 1))
  else (-1, 1)

def formS (s : ByteArray) (i : Nat) : Int × Int := formI (s.size - i) (bt s i) (bt s (i + 1)) (bt s (i + 2)) (bt s (i + 3))

def formZ (s : ByteArray) (i : Int) : Int × Int := if i < 0 ∨ (s.size : Int) ≤ i then (-1, 0) else formS s i.toNat

theorem ret2 {a b c d : Int} {k l : IntKind} (h1 : a = c) (h2 : b = d) : Ending.returned (.tuple #[.int k a, .int l b]) = .returned (.tuple #[.int k c, .int l d]) := by rw [h1, h2]

theorem ret2p {a b : Int} {p : Int × Int} {k l : IntKind} (h : p = (a, b)) : Ending.returned (.tuple #[.int k a, .int l b]) = .returned (.tuple #[.int k p.1, .int l p.2]) := by rw [h]

theorem get!_bt (s : ByteArray) (k : Nat) : ((s.get! k).toNat : Int) = bt s k := by
  by_cases h : k < s.size
  · rw [← get_bt s k h]
    cases s with
    | mk d => exact congrArg (fun b : UInt8 => (b.toNat : Int)) (getElem!_pos d k h)
  · rw [bt_end s (by omega)]
    cases s with
    | mk d => exact congrArg (fun b : UInt8 => (b.toNat : Int)) (getElem!_neg d k h)

/-- What 'At' makes of the model's decoder: the rune and the width; a broken byte: -1 and 1. -/
def broke (d : Nat × Nat) : Int × Int := if d.1 = 65533 ∧ d.2 = 1 then (-1, 1) else (d.1, d.2)

set_option maxRecDepth 100000 in
set_option maxHeartbeats 4000000 in
theorem broke_decodeN (n b0 b1 b2 b3 : Nat) (h0 : b0 < 256) :
    broke (Lib.decodeN n b0 b1 b2 b3) = formI n b0 b1 b2 b3 := by
  unfold broke Lib.decodeN formI
  repeat' split
  all_goals first | (exfalso; omega) | (apply Prod.ext <;> simp only <;> omega) | (simp_all; done) | (simp_all; omega)

theorem broke_decode (s : ByteArray) (i : Nat) : broke (Utf8.decode s i) = formS s i := by
  rw [Lib.decode_at, broke_decodeN _ _ _ _ _ (s.get! i).toNat_lt, get!_bt, get!_bt, get!_bt, get!_bt]
  rfl

end
section
open Go.RowKit Go.PlainAid
/-- The width of the piece at a place. -/
def wd (s : ByteArray) (i : Nat) : Nat := (Utf8.decode s i).2

/-- The rune of the piece at a place; -1 where no form begins. -/
def rn (s : ByteArray) (i : Nat) : Int := (formS s i).1

theorem formS_wd (s : ByteArray) (i : Nat) : (formS s i).2 = (wd s i : Int) := by
  have h := broke_decode s i
  unfold broke at h
  unfold wd
  rw [← h]
  split
  · rename_i hq; simp [hq.2]
  · rfl

theorem wd_pos (s : ByteArray) (i : Nat) (h : i < s.size) : 1 ≤ wd s i := Lib.decode_width_pos s i h

theorem wd_four (s : ByteArray) (i : Nat) : wd s i ≤ 4 := by
  have h := formS_wd s i
  unfold formS formI at h
  repeat' split at h
  all_goals simp at h; omega

theorem wd_in (s : ByteArray) (i : Nat) (h : i < s.size) : i + wd s i ≤ s.size := by
  have h := formS_wd s i
  unfold formS formI at h
  repeat' split at h
  all_goals simp at h; omega

theorem rn_broken (s : ByteArray) (i : Nat) : rn s i < 0 ↔ (Utf8.decode s i).1 = 65533 ∧ wd s i = 1 := by
  have h := broke_decode s i
  unfold broke at h
  unfold rn wd
  rw [← h]
  split
  · rename_i hq; simp [hq]
  · rename_i hq; simp only [hq, iff_false]; omega

theorem rn_broke (s : ByteArray) (i : Nat) (h : rn s i < 0) : rn s i = -1 := by
  have h' := broke_decode s i
  unfold broke at h'
  unfold rn at h ⊢
  rw [← h'] at h ⊢
  split
  · rfl
  · rename_i hq; rw [if_neg hq] at h; simp at h; omega

theorem rn_right (s : ByteArray) (i : Nat) (h : ¬ rn s i < 0) : rn s i = ((Utf8.decode s i).1 : Int) := by
  have h' := broke_decode s i
  unfold broke at h'
  unfold rn at h ⊢
  rw [← h'] at h ⊢
  split
  · rename_i hq; rw [if_pos hq] at h; simp at h
  · rfl

/-- The place of the first broken byte from a place on; -1: there is none. -/
def brkF (s : ByteArray) : Nat → Nat → Int
  | 0, _ => -1
  | f + 1, pos => if pos < s.size then (if rn s pos < 0 then pos else brkF s f (pos + wd s pos)) else -1

def brk (s : ByteArray) (pos : Nat) : Int := brkF s (s.size - pos) pos

theorem brkF_more (s : ByteArray) : ∀ f g pos, s.size ≤ pos + f → s.size ≤ pos + g → brkF s f pos = brkF s g pos
  | 0, 0, _, _, _ => rfl
  | 0, g + 1, pos, h, _ => by simp only [brkF]; rw [if_neg (by omega)]
  | f + 1, 0, pos, _, h => by simp only [brkF]; rw [if_neg (by omega)]
  | f + 1, g + 1, pos, h, h' => by
    simp only [brkF]
    split
    · rename_i hp
      have := wd_pos s pos hp
      rw [brkF_more s f g (pos + wd s pos) (by omega) (by omega)]
    · rfl

theorem brk_step (s : ByteArray) (pos : Nat) (h : pos < s.size) : brk s pos = if rn s pos < 0 then (pos : Int) else brk s (pos + wd s pos) := by
  have hw := wd_pos s pos h
  unfold brk
  obtain ⟨f, hf⟩ : ∃ f, s.size - pos = f + 1 := ⟨s.size - pos - 1, by omega⟩
  rw [hf]
  show (if pos < s.size then (if rn s pos < 0 then (pos : Int) else brkF s f (pos + wd s pos)) else -1) = _
  rw [if_pos h, brkF_more s f (s.size - (pos + wd s pos)) _ (by omega) (by omega)]

theorem brk_end (s : ByteArray) (pos : Nat) (h : s.size ≤ pos) : brk s pos = -1 := by
  unfold brk; rw [show s.size - pos = 0 by omega]; rfl

theorem brk_bd (s : ByteArray) : ∀ f pos, -1 ≤ brkF s f pos ∧ brkF s f pos < s.size
  | 0, _ => by simp only [brkF]; omega
  | f + 1, pos => by
    have := brk_bd s f (pos + wd s pos)
    simp only [brkF]
    repeat' split
    all_goals omega

/-- The iterator's step, where its block is known by another number, the iterator as the block that it is. -/
theorem next_at {P : Program} {b : Nat} {W : World} (hb : W.heap.size = b) (s : ByteArray) (pos : Nat) (h : pos < s.size) (ty : TypeId) :
    (Instr.next (.pointer (some ⟨b, 0, none⟩)) true ty).run P (W.alloc (.stringIter s pos)) = .ok (.tuple #[.bool true, .int .i64 pos, .int .i32 (Utf8.decode s pos).1]) (W.alloc (.stringIter s (pos + wd s pos))) := by
  subst hb; exact run_next_any W s pos ty h

theorem next_end {P : Program} {b : Nat} {W : World} (hb : W.heap.size = b) (s : ByteArray) (pos : Nat) (h : ¬ pos < s.size) (ty : TypeId) :
    (Instr.next (.pointer (some ⟨b, 0, none⟩)) true ty).run P (W.alloc (.stringIter s pos)) = .ok (.tuple #[.bool false]) (W.alloc (.stringIter s pos)) := by
  subst hb; exact run_next_end W s pos ty h

theorem iterPos_at {b : Nat} {W : World} (hb : W.heap.size = b) (s : ByteArray) (pos : Nat) : (W.alloc (.stringIter s pos)).iterPos b = pos := by
  subst hb; exact World.iterPos_iter W s pos

end
section
open Go.RowKit
set_option maxRecDepth 100000 in
set_option maxHeartbeats 400000 in
theorem digit_any (b : Int) (h0 : 0 ≤ b) (h1 : b < 256) (w : World) :
    Calls Tryz.prog 109 #[.int .u8 b] w fun e w' => e = .returned (.bool (bDigit b)) ∧ w = w' := by
  go_enter Tryz.func109, Tryz.ntmps109
  go_wp2
  all_goals (go_ret; refine ⟨ret_bool ?_, rfl⟩; rw [Bool.eq_iff_iff]; simp [bDigit]; try omega)

set_option maxRecDepth 100000 in
set_option maxHeartbeats 400000 in
theorem letter_any (b : Int) (h0 : 0 ≤ b) (h1 : b < 256) (w : World) :
    Calls Tryz.prog 108 #[.int .u8 b] w fun e w' => e = .returned (.bool (bLetter b)) ∧ w = w' := by
  have H := Lib.hid (or32 b h0 h1)
  go_enter Tryz.func108, Tryz.ntmps108
  go_wp2
  all_goals (go_ret; refine ⟨ret_bool ?_, rfl⟩; rw [← H.out, Bool.eq_iff_iff]; simp; try omega)

set_option maxRecDepth 100000 in
set_option maxHeartbeats 400000 in
theorem rLetter_any (b : Int) (w : World) :
    Calls Tryz.prog 106 #[.int .u8 b] w fun e w' => e = .returned (.bool (bLetter b)) ∧ w = w' := by
  go_enter Tryz.func106, Tryz.ntmps106
  go_wp2
  all_goals (go_ret; refine ⟨ret_bool ?_, rfl⟩; rw [Bool.eq_iff_iff]; simp [bLetter]; try omega)

set_option maxRecDepth 100000 in
set_option maxHeartbeats 400000 in
theorem rDigit_any (b : Int) (w : World) :
    Calls Tryz.prog 107 #[.int .u8 b] w fun e w' => e = .returned (.bool (bDigit b)) ∧ w = w' := by
  go_enter Tryz.func107, Tryz.ntmps107
  go_wp2
  all_goals (go_ret; refine ⟨ret_bool ?_, rfl⟩; rw [Bool.eq_iff_iff]; simp [bDigit]; try omega)

set_option maxRecDepth 100000 in
set_option maxHeartbeats 400000 in
theorem rBlank_any (b : Int) (w : World) :
    Calls Tryz.prog 84 #[.int .u8 b] w fun e w' => e = .returned (.bool (bBlank b)) ∧ w = w' := by
  go_enter Tryz.func84, Tryz.ntmps84
  go_wp2
  all_goals (go_ret; refine ⟨ret_bool ?_, rfl⟩; rw [Bool.eq_iff_iff]; simp_all [bBlank]; try omega)

set_option maxRecDepth 100000 in
set_option maxHeartbeats 400000 in
theorem char_any (r : Int) (w : World) :
    Calls Tryz.prog 73 #[.int .i32 r] w fun e w' => e = .returned (.bool (rChar r)) ∧ w = w' := by
  go_enter Tryz.func73, Tryz.ntmps73
  go_wp2
  all_goals (go_ret; refine ⟨ret_bool ?_, rfl⟩; rw [Bool.eq_iff_iff]; simp_all [rChar]; try omega)

set_option maxRecDepth 100000 in
set_option maxHeartbeats 400000 in
theorem rChar_any (r : Int) (w : World) :
    Calls Tryz.prog 50 #[.int .i32 r] w fun e w' => e = .returned (.bool (rChar r)) ∧ w = w' := by
  go_enter Tryz.func50, Tryz.ntmps50
  go_wp2
  all_goals (go_ret; refine ⟨ret_bool ?_, rfl⟩; rw [Bool.eq_iff_iff]; simp_all [rChar]; try omega)

set_option maxRecDepth 100000 in
set_option maxHeartbeats 400000 in
theorem nameStart_any (b : Int) (h0 : 0 ≤ b) (h1 : b < 256) (w : World) :
    Calls Tryz.prog 89 #[.int .u8 b] w fun e w' => e = .returned (.bool (bStart b)) ∧ w = w' := by
  have H := Lib.hid (bStart_eq b)
  go_enter Tryz.func89, Tryz.ntmps89
  go_wp2_with (go_at_call 108; refine (letter_any _ (by omega) (by omega) _).mono ?_; rintro e w' ⟨rfl, rfl⟩)
  all_goals (go_ret; refine ⟨ret_bool ?_, rfl⟩; rw [H.out]; simp_all)

set_option maxRecDepth 100000 in
set_option maxHeartbeats 400000 in
theorem rStart_any (b : Int) (w : World) :
    Calls Tryz.prog 85 #[.int .u8 b] w fun e w' => e = .returned (.bool (bStart b)) ∧ w = w' := by
  have H := Lib.hid (bStart_eq b)
  go_enter Tryz.func85, Tryz.ntmps85
  go_wp2_with (go_at_call 106; refine (rLetter_any _ _).mono ?_; rintro e w' ⟨rfl, rfl⟩)
  all_goals (go_ret; refine ⟨ret_bool ?_, rfl⟩; rw [H.out]; simp_all)

set_option maxRecDepth 100000 in
set_option maxHeartbeats 400000 in
theorem nameByte_any (b : Int) (h0 : 0 ≤ b) (h1 : b < 256) (w : World) :
    Calls Tryz.prog 90 #[.int .u8 b] w fun e w' => e = .returned (.bool (bByte b)) ∧ w = w' := by
  have H := Lib.hid (bByte_eq b)
  go_enter Tryz.func90, Tryz.ntmps90
  go_wp2_with (first | (go_at_call 89; refine (nameStart_any _ (by omega) (by omega) _).mono ?_; rintro e w' ⟨rfl, rfl⟩) | (go_at_call 109; refine (digit_any _ (by omega) (by omega) _).mono ?_; rintro e w' ⟨rfl, rfl⟩))
  all_goals (go_ret; refine ⟨ret_bool ?_, rfl⟩; rw [H.out]; simp_all)

set_option maxRecDepth 100000 in
set_option maxHeartbeats 400000 in
theorem rByte_any (b : Int) (w : World) :
    Calls Tryz.prog 86 #[.int .u8 b] w fun e w' => e = .returned (.bool (bByte b)) ∧ w = w' := by
  have H := Lib.hid (bByte_eq b)
  go_enter Tryz.func86, Tryz.ntmps86
  go_wp2_with (first | (go_at_call 85; refine (rStart_any _ _).mono ?_; rintro e w' ⟨rfl, rfl⟩) | (go_at_call 107; refine (rDigit_any _ _).mono ?_; rintro e w' ⟨rfl, rfl⟩))
  all_goals (go_ret; refine ⟨ret_bool ?_, rfl⟩; rw [H.out]; simp_all)

end
section
open Go.RowKit Go.PlainAid
set_option maxRecDepth 100000 in
set_option maxHeartbeats 1000000 in
theorem rForm_low (s : ByteArray) (i : Nat) (hi : i < s.size) (h0 : bt s i < 194 ∨ 244 < bt s i) (w : World) :
    Calls Tryz.prog 49 #[.string s, .int .i64 i] w fun e w' => e = .returned (.tuple #[.int .i32 (formS s i).1, .int .i64 (formS s i).2]) ∧ w = w' := by
  have hb := get_bt s
  have l0 := bt_nonneg s i; have u0 := bt_le s i
  by_cases ha : bt s i < 128
  · have hf : formS s i = (bt s i, 1) := by unfold formS formI; rw [if_pos ha]
    have H := Lib.hid hf; clear hf
    go_enter Tryz.func49, Tryz.ntmps49
    go_wp2
    go_ret2
    exact ⟨ret2p H.out, rfl⟩
  · have hf : formS s i = (-1, 1) := by unfold formS formI; rw [if_neg ha, if_neg (by omega), if_neg (by omega), if_neg (by omega)]
    have H := Lib.hid hf; clear hf
    by_cases h2 : bt s i < 194
    all_goals
      go_enter Tryz.func49, Tryz.ntmps49
      go_wp2
      go_ret2
      exact ⟨ret2p H.out, rfl⟩

set_option maxRecDepth 100000 in
set_option maxHeartbeats 1000000 in
theorem rForm_two (s : ByteArray) (i : Nat) (hs : s.size ≤ 1000000000000000) (hi : i < s.size) (h0 : 194 ≤ bt s i) (h1 : bt s i ≤ 223) (w : World) :
    Calls Tryz.prog 49 #[.string s, .int .i64 i] w fun e w' => e = .returned (.tuple #[.int .i32 (formS s i).1, .int .i64 (formS s i).2]) ∧ w = w' := by
  have hb := get_bt s
  have hf : formS s i = if 2 ≤ s.size - i ∧ bt s (i + 1) / 64 = 2 then (bt s i % 32 * 64 + bt s (i + 1) % 64, 2) else (-1, 1) := by
    unfold formS formI; rw [if_neg (by omega), if_pos (by omega)]
  have H := Lib.hid hf; clear hf
  have l1 := bt_nonneg s (i + 1); have u1 := bt_le s (i + 1)
  have a1 := and192 s; have a2 := ne128 s
  by_cases h2 : i + 2 ≤ s.size
  · go_enter Tryz.func49, Tryz.ntmps49
    go_wp2
    go_rounds 4
    all_goals go_ret2
    all_goals (refine ⟨ret2p ?_, rfl⟩; rw [H.out])
    all_goals (split <;> first | rfl | (exfalso; omega) | (apply Prod.ext <;> simp only <;> omega))
  · go_enter Tryz.func49, Tryz.ntmps49
    go_wp2
    go_ret2
    exact ⟨ret2p (by rw [H.out, if_neg (by omega)]), rfl⟩

set_option maxRecDepth 100000 in
set_option maxHeartbeats 1000000 in
theorem rForm_three (s : ByteArray) (i : Nat) (hs : s.size ≤ 1000000000000000) (hi : i < s.size) (h0 : 224 ≤ bt s i) (h1 : bt s i ≤ 239) (w : World) :
    Calls Tryz.prog 49 #[.string s, .int .i64 i] w fun e w' => e = .returned (.tuple #[.int .i32 (formS s i).1, .int .i64 (formS s i).2]) ∧ w = w' := by
  have hb := get_bt s
  have hf : formS s i = if 3 ≤ s.size - i ∧ bt s (i + 1) / 64 = 2 ∧ bt s (i + 2) / 64 = 2 ∧ 2048 ≤ (bt s i % 16 * 64 + bt s (i + 1) % 64) * 64 + bt s (i + 2) % 64 ∧ ((bt s i % 16 * 64 + bt s (i + 1) % 64) * 64 + bt s (i + 2) % 64 < 55296 ∨ 57343 < (bt s i % 16 * 64 + bt s (i + 1) % 64) * 64 + bt s (i + 2) % 64)
      then ((bt s i % 16 * 64 + bt s (i + 1) % 64) * 64 + bt s (i + 2) % 64, 3) else (-1, 1) := by
    unfold formS formI; rw [if_neg (by omega), if_neg (by omega), if_pos (by omega)]
  have H := Lib.hid hf; clear hf
  have l1 := bt_nonneg s (i + 1); have u1 := bt_le s (i + 1)
  have l2 := bt_nonneg s (i + 2); have u2 := bt_le s (i + 2)
  have a1 := and192 s; have a2 := ne128 s
  by_cases h2 : i + 3 ≤ s.size
  · go_enter Tryz.func49, Tryz.ntmps49
    go_wp2
    go_rounds 4
    all_goals go_ret2
    all_goals (refine ⟨ret2p ?_, rfl⟩; rw [H.out])
    all_goals (split <;> first | rfl | (exfalso; omega) | (apply Prod.ext <;> simp only <;> omega))
  · go_enter Tryz.func49, Tryz.ntmps49
    go_wp2
    go_ret2
    exact ⟨ret2p (by rw [H.out, if_neg (by omega)]), rfl⟩

set_option maxRecDepth 100000 in
set_option maxHeartbeats 1000000 in
theorem rForm_four (s : ByteArray) (i : Nat) (hs : s.size ≤ 1000000000000000) (hi : i < s.size) (h0 : 240 ≤ bt s i) (h1 : bt s i ≤ 244) (w : World) :
    Calls Tryz.prog 49 #[.string s, .int .i64 i] w fun e w' => e = .returned (.tuple #[.int .i32 (formS s i).1, .int .i64 (formS s i).2]) ∧ w = w' := by
  have hb := get_bt s
  have hf : formS s i = if 4 ≤ s.size - i ∧ bt s (i + 1) / 64 = 2 ∧ bt s (i + 2) / 64 = 2 ∧ bt s (i + 3) / 64 = 2 ∧ 65536 ≤ ((bt s i % 8 * 64 + bt s (i + 1) % 64) * 64 + bt s (i + 2) % 64) * 64 + bt s (i + 3) % 64 ∧ ((bt s i % 8 * 64 + bt s (i + 1) % 64) * 64 + bt s (i + 2) % 64) * 64 + bt s (i + 3) % 64 ≤ 1114111
      then (((bt s i % 8 * 64 + bt s (i + 1) % 64) * 64 + bt s (i + 2) % 64) * 64 + bt s (i + 3) % 64, 4) else (-1, 1) := by
    unfold formS formI; rw [if_neg (by omega), if_neg (by omega), if_neg (by omega), if_pos (by omega)]
  have H := Lib.hid hf; clear hf
  have l1 := bt_nonneg s (i + 1); have u1 := bt_le s (i + 1)
  have l2 := bt_nonneg s (i + 2); have u2 := bt_le s (i + 2)
  have l3 := bt_nonneg s (i + 3); have u3 := bt_le s (i + 3)
  have a1 := and192 s; have a2 := ne128 s
  by_cases h2 : i + 4 ≤ s.size
  · go_enter Tryz.func49, Tryz.ntmps49
    go_wp2
    go_rounds 4
    all_goals go_ret2
    all_goals (refine ⟨ret2p ?_, rfl⟩; rw [H.out])
    all_goals (split <;> first | rfl | (exfalso; omega) | (apply Prod.ext <;> simp only <;> omega))
  · go_enter Tryz.func49, Tryz.ntmps49
    go_wp2
    go_ret2
    exact ⟨ret2p (by rw [H.out, if_neg (by omega)]), rfl⟩

theorem rForm_in (s : ByteArray) (i : Nat) (hs : s.size ≤ 1000000000000000) (hi : i < s.size) (w : World) :
    Calls Tryz.prog 49 #[.string s, .int .i64 i] w fun e w' => e = .returned (.tuple #[.int .i32 (formS s i).1, .int .i64 (formS s i).2]) ∧ w = w' := by
  by_cases h : bt s i < 194 ∨ 244 < bt s i
  · exact rForm_low s i hi h w
  by_cases h2 : bt s i ≤ 223
  · exact rForm_two s i hs hi (by omega) h2 w
  by_cases h3 : bt s i ≤ 239
  · exact rForm_three s i hs hi (by omega) h3 w
  · exact rForm_four s i hs hi (by omega) (by omega) w

set_option maxRecDepth 100000 in
set_option maxHeartbeats 1000000 in
/-- The reference's Form at every text and every place. -/
theorem rForm_any (s : ByteArray) (i : Int) (hs : s.size ≤ 1000000000000000) (w : World) :
    Calls Tryz.prog 49 #[.string s, .int .i64 i] w fun e w' => e = .returned (.tuple #[.int .i32 (formZ s i).1, .int .i64 (formZ s i).2]) ∧ w = w' := by
  by_cases h : i < 0 ∨ (s.size : Int) ≤ i
  · have hf : formZ s i = (-1, 0) := by unfold formZ; rw [if_pos h]
    have H := Lib.hid hf; clear hf
    by_cases h2 : i < 0
    all_goals
      go_enter Tryz.func49, Tryz.ntmps49
      go_wp2
      go_ret2
      exact ⟨ret2p H.out, rfl⟩
  · have hf : formZ s i = formS s i.toNat := by unfold formZ; rw [if_neg h]
    obtain ⟨k, rfl⟩ := Int.eq_ofNat_of_zero_le (show 0 ≤ i by omega)
    rw [hf]
    exact rForm_in s k hs (by omega) w

end
end Go.Proofs.YtnmpbphnfiiafaaGreatDoor
