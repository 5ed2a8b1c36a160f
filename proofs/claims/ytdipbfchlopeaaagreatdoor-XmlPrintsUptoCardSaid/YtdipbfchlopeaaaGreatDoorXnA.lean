/-
  Laws and contracts taken over from earlier texts (cut out by a program of this seat's own, slice.py), as far as this seat needs them.
  Laws and contracts taken over from earlier texts (cut out by a program of this seat's own, slice.py), as far as this seat needs them.
  Laws and contracts taken over from earlier texts (cut out by a program of this seat's own, slice.py), as far as this seat needs them.
  Laws and contracts taken over from earlier texts (cut out by a program of this seat's own, slice.py), as far as this seat needs them.
  Small laws on worlds: what stays where one block alone is turned.
  A part of XML, plain: how a file falls into tokens, or what is wrong and where. No program in sight.
-/
import Derived.WalkKit
import Derived.PlainAid
import Derived.Lib.DecodeN
import Derived.Lib.RuneCount
import Derived.Laws.RangeAny
import Derived.WalkSpells
import Derived.WalkLawsBesides
import Derived.Lib.Hide
import Derived.Handy
import Derived.Laws.BitsLemmas
import Derived.Shelf.Strings.SlTrimAscii
import Derived.Laws.RangeString
import Derived.Lib.ConvBytes
import Derived.Lib.SlBytesRow
import Derived.Deep.RegionWith
import Derived.RegionTactic
import Derived.WalkSmall
import Derived.Below
import Derived.Lib.SmallJoins
import Derived.Deep.OwnRows
import Derived.Lib.Strings
import Derived.Lib.BufferRead
import Derived.Lib.RepeatB
import Derived.Deep.QuietTactic
import Derived.BigQuiet
import Derived.Outline
import Derived.IntWalk
import Derived.Deep.Cut
import Derived.Deep.DeepCutAuto
import Derived.ScopeJumps
import Derived.Deep.RegionHeld3
import Derived.Lib.OthersKept
import Derived.Deep.LoopGhost
import Derived.StillTailTactics
import Derived.Lib.AppendIntMem
import Derived.Lib.ItoaMem
import Derived.BigCall
import Derived.BigGuard
import Derived.Deep.RegionLawGrows
import Derived.ChangeAlike
import Derived.Deep.AppendLies
import Derived.Deep.RegionHeldLaw
import Derived.Test.YtdipbfchlopeaaaGreatDoorRows
import Derived.Test.YtdipbfchlopeaaaGreatDoorShelf
import Derived.Lib.RuneBytes
namespace Go.Proofs.YtdipbfchlopeaaaGreatDoor
section
section
open Go.RowKit
theorem lt_some {w : World} {k : Nat} {o : Obj} (h : w.heap[k]? = some o) : k < w.heap.size := (Array.getElem?_eq_some_iff.1 h).1
theorem bdN0 {B : Nat} {a w : World} (h : Below B a w) (n : Nat) : Below B a (w.drewN n) := ⟨h.os, h.tape, h.output, h.size, h.block⟩
end
section
open Go.RowKit Go.PlainAid
theorem ret_bool {a b : Bool} (h : a = b) : Ending.returned (.bool a) = .returned (.bool b) := by rw [h]

theorem ret_int {k : IntKind} {a b : Int} (h : a = b) : Ending.returned (.int k a) = .returned (.int k b) := by rw [h]

def bLetter (b : Int) : Bool := decide ((97 ≤ b ∧ b ≤ 122) ∨ (65 ≤ b ∧ b ≤ 90))

def bDigit (b : Int) : Bool := decide (48 ≤ b ∧ b ≤ 57)

def bStart (b : Int) : Bool := decide ((97 ≤ b ∧ b ≤ 122) ∨ (65 ≤ b ∧ b ≤ 90) ∨ b = 95)

def bByte (b : Int) : Bool := decide ((97 ≤ b ∧ b ≤ 122) ∨ (65 ≤ b ∧ b ≤ 90) ∨ b = 95 ∨ (48 ≤ b ∧ b ≤ 57) ∨ b = 45 ∨ b = 46)

def bBlank (b : Int) : Bool := decide (b = 9 ∨ b = 10 ∨ b = 13 ∨ b = 32)

def rChar (r : Int) : Bool := decide (r = 9 ∨ r = 10 ∨ r = 13 ∨ (32 ≤ r ∧ r ≤ 55295) ∨ (57344 ≤ r ∧ r ≤ 65533) ∨ (65536 ≤ r ∧ r ≤ 1114111))

theorem bStart_eq (b : Int) : bStart b = (bLetter b || b == 95) := by
  rw [Bool.eq_iff_iff]; simp [bStart, bLetter]; omega

theorem bByte_eq (b : Int) : bByte b = (bStart b || bDigit b || b == 45 || b == 46) := by
  rw [Bool.eq_iff_iff]; simp [bStart, bByte, bDigit]; omega

theorem or32_all : ∀ n : Fin 256, (decide (97 ≤ bits .or .u8 (n.val : Int) 32) && decide (bits .or .u8 (n.val : Int) 32 ≤ 122)) = bLetter (n.val : Int) := by
  decide +kernel

theorem or32 (b : Int) (h0 : 0 ≤ b) (h1 : b < 256) : (decide (97 ≤ bits .or .u8 b 32) && decide (bits .or .u8 b 32 ≤ 122)) = bLetter b := by
  have := or32_all ⟨b.toNat, by omega⟩
  simpa [Int.toNat_of_nonneg h0] using this

theorem and192_all : ∀ n : Fin 256, bits .and .u8 (n.val : Int) 192 = (n.val : Int) / 64 * 64 := by decide +kernel

theorem and192 (s : ByteArray) (k : Nat) : bits .and .u8 (bt s k) 192 = bt s k / 64 * 64 := by
  have h0 := bt_nonneg s k
  have h1 := bt_le s k
  have := and192_all ⟨(bt s k).toNat, by omega⟩
  simpa [Int.toNat_of_nonneg h0] using this

theorem ne128 (s : ByteArray) (k : Nat) : (bt s k / 64 * 64 != 128) = decide (bt s k < 128 ∨ 191 < bt s k) := by
  rw [Bool.eq_iff_iff]; simp; omega

/-- The reference's own reading of the form that begins at a place: n bytes are left, the next four (0 behind the end). -/
def formI (n : Nat) (b0 b1 b2 b3 : Int) : Int × Int :=
  if b0 < 128 then (b0, 1)
  else if 194 ≤ b0 ∧ b0 ≤ 223 then
    (if 2 ≤ n ∧ b1 / 64 = 2 then (b0 % 32 * 64 + b1 % 64, 2) else (-1, 1))
  else if 224 ≤ b0 ∧ b0 ≤ 239 then
    (if 3 ≤ n ∧ b1 / 64 = 2 ∧ b2 / 64 = 2 ∧ 2048 ≤ (b0 % 16 * 64 + b1 % 64) * 64 + b2 % 64 ∧ ((b0 % 16 * 64 + b1 % 64) * 64 + b2 % 64 < 55296 ∨ 57343 < (b0 % 16 * 64 + b1 % 64) * 64 + b2 % 64)
      then ((b0 % 16 * 64 + b1 % 64) * 64 + b2 % 64, 3) else (-1, 1))
  else if 240 ≤ b0 ∧ b0 ≤ 244 then
    (if 4 ≤ n ∧ b1 / 64 = 2 ∧ b2 / 64 = 2 ∧ b3 / 64 = 2 ∧ 65536 ≤ ((b0 % 8 * 64 + b1 % 64) * 64 + b2 % 64) * 64 + b3 % 64 ∧ ((b0 % 8 * 64 + b1 % 64) * 64 + b2 % 64) * 64 + b3 % 64 ≤ 1114111
      then (((b0 % 8 * 64 + b1 % 64) * 64 + b2 % 64) * 64 + b3 % 64, 4) else (-1, 1))
  else (-1, 1)

def formS (s : ByteArray) (i : Nat) : Int × Int := formI (s.size - i) (bt s i) (bt s (i + 1)) (bt s (i + 2)) (bt s (i + 3))

def formZ (s : ByteArray) (i : Int) : Int × Int := if i < 0 ∨ (s.size : Int) ≤ i then (-1, 0) else formS s i.toNat

theorem ret2 {a b c d : Int} {k l : IntKind} (h1 : a = c) (h2 : b = d) : Ending.returned (.tuple #[.int k a, .int l b]) = .returned (.tuple #[.int k c, .int l d]) := by rw [h1, h2]

theorem ret2p {a b : Int} {p : Int × Int} {k l : IntKind} (h : p = (a, b)) : Ending.returned (.tuple #[.int k a, .int l b]) = .returned (.tuple #[.int k p.1, .int l p.2]) := by rw [h]

theorem get!_bt (s : ByteArray) (k : Nat) : ((s.get! k).toNat : Int) = bt s k := by
  by_cases h : k < s.size
  · rw [← get_bt s k h]
    cases s with
    | mk d => exact congrArg (fun b : UInt8 => (b.toNat : Int)) (getElem!_pos d k h)
  · rw [bt_end s (by omega)]
    cases s with
    | mk d => exact congrArg (fun b : UInt8 => (b.toNat : Int)) (getElem!_neg d k h)

/-- What 'At' makes of the model's decoder: the rune and the width; a broken byte: -1 and 1. -/
def broke (d : Nat × Nat) : Int × Int := if d.1 = 65533 ∧ d.2 = 1 then (-1, 1) else (d.1, d.2)

set_option maxRecDepth 100000 in
set_option maxHeartbeats 4000000 in
theorem broke_decodeN (n b0 b1 b2 b3 : Nat) (h0 : b0 < 256) :
    broke (Lib.decodeN n b0 b1 b2 b3) = formI n b0 b1 b2 b3 := by
  unfold broke Lib.decodeN formI
  repeat' split
  all_goals first | (exfalso; omega) | (apply Prod.ext <;> simp only <;> omega) | (simp_all; done) | (simp_all; omega)

theorem broke_decode (s : ByteArray) (i : Nat) : broke (Utf8.decode s i) = formS s i := by
  rw [Lib.decode_at, broke_decodeN _ _ _ _ _ (s.get! i).toNat_lt, get!_bt, get!_bt, get!_bt, get!_bt]
  rfl

end
section
open Go.RowKit Go.PlainAid
/-- The width of the piece at a place. -/
def wd (s : ByteArray) (i : Nat) : Nat := (Utf8.decode s i).2

/-- The rune of the piece at a place; -1 where no form begins. -/
def rn (s : ByteArray) (i : Nat) : Int := (formS s i).1

theorem formS_wd (s : ByteArray) (i : Nat) : (formS s i).2 = (wd s i : Int) := by
  have h := broke_decode s i
  unfold broke at h
  unfold wd
  rw [← h]
  split
  · rename_i hq; simp [hq.2]
  · rfl

theorem wd_pos (s : ByteArray) (i : Nat) (h : i < s.size) : 1 ≤ wd s i := Lib.decode_width_pos s i h

theorem wd_four (s : ByteArray) (i : Nat) : wd s i ≤ 4 := by
  have h := formS_wd s i
  unfold formS formI at h
  repeat' split at h
  all_goals simp at h; omega

theorem wd_in (s : ByteArray) (i : Nat) (h : i < s.size) : i + wd s i ≤ s.size := by
  have h := formS_wd s i
  unfold formS formI at h
  repeat' split at h
  all_goals simp at h; omega

theorem rn_broken (s : ByteArray) (i : Nat) : rn s i < 0 ↔ (Utf8.decode s i).1 = 65533 ∧ wd s i = 1 := by
  have h := broke_decode s i
  unfold broke at h
  unfold rn wd
  rw [← h]
  split
  · rename_i hq; simp [hq]
  · rename_i hq; simp only [hq, iff_false]; omega

theorem rn_broke (s : ByteArray) (i : Nat) (h : rn s i < 0) : rn s i = -1 := by
  have h' := broke_decode s i
  unfold broke at h'
  unfold rn at h ⊢
  rw [← h'] at h ⊢
  split
  · rfl
  · rename_i hq; rw [if_neg hq] at h; simp at h; omega

theorem rn_right (s : ByteArray) (i : Nat) (h : ¬ rn s i < 0) : rn s i = ((Utf8.decode s i).1 : Int) := by
  have h' := broke_decode s i
  unfold broke at h'
  unfold rn at h ⊢
  rw [← h'] at h ⊢
  split
  · rename_i hq; rw [if_pos hq] at h; simp at h
  · rfl

/-- The place of the first broken byte from a place on; -1: there is none. -/
def brkF (s : ByteArray) : Nat → Nat → Int
  | 0, _ => -1
  | f + 1, pos => if pos < s.size then (if rn s pos < 0 then pos else brkF s f (pos + wd s pos)) else -1

def brk (s : ByteArray) (pos : Nat) : Int := brkF s (s.size - pos) pos

theorem brkF_more (s : ByteArray) : ∀ f g pos, s.size ≤ pos + f → s.size ≤ pos + g → brkF s f pos = brkF s g pos
  | 0, 0, _, _, _ => rfl
  | 0, g + 1, pos, h, _ => by simp only [brkF]; rw [if_neg (by omega)]
  | f + 1, 0, pos, _, h => by simp only [brkF]; rw [if_neg (by omega)]
  | f + 1, g + 1, pos, h, h' => by
    simp only [brkF]
    split
    · rename_i hp
      have := wd_pos s pos hp
      rw [brkF_more s f g (pos + wd s pos) (by omega) (by omega)]
    · rfl

theorem brk_step (s : ByteArray) (pos : Nat) (h : pos < s.size) : brk s pos = if rn s pos < 0 then (pos : Int) else brk s (pos + wd s pos) := by
  have hw := wd_pos s pos h
  unfold brk
  obtain ⟨f, hf⟩ : ∃ f, s.size - pos = f + 1 := ⟨s.size - pos - 1, by omega⟩
  rw [hf]
  show (if pos < s.size then (if rn s pos < 0 then (pos : Int) else brkF s f (pos + wd s pos)) else -1) = _
  rw [if_pos h, brkF_more s f (s.size - (pos + wd s pos)) _ (by omega) (by omega)]

theorem brk_end (s : ByteArray) (pos : Nat) (h : s.size ≤ pos) : brk s pos = -1 := by
  unfold brk; rw [show s.size - pos = 0 by omega]; rfl

theorem brk_bd (s : ByteArray) : ∀ f pos, -1 ≤ brkF s f pos ∧ brkF s f pos < s.size
  | 0, _ => by simp only [brkF]; omega
  | f + 1, pos => by
    have := brk_bd s f (pos + wd s pos)
    simp only [brkF]
    repeat' split
    all_goals omega

/-- The iterator's step, where its block is known by another number, the iterator as the block that it is. -/
theorem next_at {P : Program} {b : Nat} {W : World} (hb : W.heap.size = b) (s : ByteArray) (pos : Nat) (h : pos < s.size) (ty : TypeId) :
    (Instr.next (.pointer (some ⟨b, 0, none⟩)) true ty).run P (W.alloc (.stringIter s pos)) = .ok (.tuple #[.bool true, .int .i64 pos, .int .i32 (Utf8.decode s pos).1]) (W.alloc (.stringIter s (pos + wd s pos))) := by
  subst hb; exact run_next_any W s pos ty h

theorem next_end {P : Program} {b : Nat} {W : World} (hb : W.heap.size = b) (s : ByteArray) (pos : Nat) (h : ¬ pos < s.size) (ty : TypeId) :
    (Instr.next (.pointer (some ⟨b, 0, none⟩)) true ty).run P (W.alloc (.stringIter s pos)) = .ok (.tuple #[.bool false]) (W.alloc (.stringIter s pos)) := by
  subst hb; exact run_next_end W s pos ty h

theorem iterPos_at {b : Nat} {W : World} (hb : W.heap.size = b) (s : ByteArray) (pos : Nat) : (W.alloc (.stringIter s pos)).iterPos b = pos := by
  subst hb; exact World.iterPos_iter W s pos

end
section
open Go.RowKit
set_option maxRecDepth 100000 in
set_option maxHeartbeats 400000 in
theorem digit_any (b : Int) (h0 : 0 ≤ b) (h1 : b < 256) (w : World) :
    Calls Tryz.prog 118 #[.int .u8 b] w fun e w' => e = .returned (.bool (bDigit b)) ∧ w = w' := by
  go_enter Tryz.func118, Tryz.ntmps118
  go_wp2
  all_goals (go_ret; refine ⟨ret_bool ?_, rfl⟩; rw [Bool.eq_iff_iff]; simp [bDigit]; try omega)

set_option maxRecDepth 100000 in
set_option maxHeartbeats 400000 in
theorem letter_any (b : Int) (h0 : 0 ≤ b) (h1 : b < 256) (w : World) :
    Calls Tryz.prog 117 #[.int .u8 b] w fun e w' => e = .returned (.bool (bLetter b)) ∧ w = w' := by
  have H := Lib.hid (or32 b h0 h1)
  go_enter Tryz.func117, Tryz.ntmps117
  go_wp2
  all_goals (go_ret; refine ⟨ret_bool ?_, rfl⟩; rw [← H.out, Bool.eq_iff_iff]; simp; try omega)

set_option maxRecDepth 100000 in
set_option maxHeartbeats 400000 in
theorem rLetter_any (b : Int) (w : World) :
    Calls Tryz.prog 114 #[.int .u8 b] w fun e w' => e = .returned (.bool (bLetter b)) ∧ w = w' := by
  go_enter Tryz.func114, Tryz.ntmps114
  go_wp2
  all_goals (go_ret; refine ⟨ret_bool ?_, rfl⟩; rw [Bool.eq_iff_iff]; simp [bLetter]; try omega)

set_option maxRecDepth 100000 in
set_option maxHeartbeats 400000 in
theorem rDigit_any (b : Int) (w : World) :
    Calls Tryz.prog 115 #[.int .u8 b] w fun e w' => e = .returned (.bool (bDigit b)) ∧ w = w' := by
  go_enter Tryz.func115, Tryz.ntmps115
  go_wp2
  all_goals (go_ret; refine ⟨ret_bool ?_, rfl⟩; rw [Bool.eq_iff_iff]; simp [bDigit]; try omega)

set_option maxRecDepth 100000 in
set_option maxHeartbeats 400000 in
theorem char_any (r : Int) (w : World) :
    Calls Tryz.prog 85 #[.int .i32 r] w fun e w' => e = .returned (.bool (rChar r)) ∧ w = w' := by
  go_enter Tryz.func85, Tryz.ntmps85
  go_wp2
  all_goals (go_ret; refine ⟨ret_bool ?_, rfl⟩; rw [Bool.eq_iff_iff]; simp_all [rChar]; try omega)

set_option maxRecDepth 100000 in
set_option maxHeartbeats 400000 in
theorem rChar_any (r : Int) (w : World) :
    Calls Tryz.prog 92 #[.int .i32 r] w fun e w' => e = .returned (.bool (rChar r)) ∧ w = w' := by
  go_enter Tryz.func92, Tryz.ntmps92
  go_wp2
  all_goals (go_ret; refine ⟨ret_bool ?_, rfl⟩; rw [Bool.eq_iff_iff]; simp_all [rChar]; try omega)

set_option maxRecDepth 100000 in
set_option maxHeartbeats 400000 in
theorem nameStart_any (b : Int) (h0 : 0 ≤ b) (h1 : b < 256) (w : World) :
    Calls Tryz.prog 96 #[.int .u8 b] w fun e w' => e = .returned (.bool (bStart b)) ∧ w = w' := by
  have H := Lib.hid (bStart_eq b)
  go_enter Tryz.func96, Tryz.ntmps96
  go_wp2_with (go_at_call 117; refine (letter_any _ (by omega) (by omega) _).mono ?_; rintro e w' ⟨rfl, rfl⟩)
  all_goals (go_ret; refine ⟨ret_bool ?_, rfl⟩; rw [H.out]; simp_all)

set_option maxRecDepth 100000 in
set_option maxHeartbeats 400000 in
theorem rStart_any (b : Int) (w : World) :
    Calls Tryz.prog 89 #[.int .u8 b] w fun e w' => e = .returned (.bool (bStart b)) ∧ w = w' := by
  have H := Lib.hid (bStart_eq b)
  go_enter Tryz.func89, Tryz.ntmps89
  go_wp2_with (go_at_call 114; refine (rLetter_any _ _).mono ?_; rintro e w' ⟨rfl, rfl⟩)
  all_goals (go_ret; refine ⟨ret_bool ?_, rfl⟩; rw [H.out]; simp_all)

set_option maxRecDepth 100000 in
set_option maxHeartbeats 400000 in
theorem nameByte_any (b : Int) (h0 : 0 ≤ b) (h1 : b < 256) (w : World) :
    Calls Tryz.prog 97 #[.int .u8 b] w fun e w' => e = .returned (.bool (bByte b)) ∧ w = w' := by
  have H := Lib.hid (bByte_eq b)
  go_enter Tryz.func97, Tryz.ntmps97
  go_wp2_with (first | (go_at_call 96; refine (nameStart_any _ (by omega) (by omega) _).mono ?_; rintro e w' ⟨rfl, rfl⟩) | (go_at_call 118; refine (digit_any _ (by omega) (by omega) _).mono ?_; rintro e w' ⟨rfl, rfl⟩))
  all_goals (go_ret; refine ⟨ret_bool ?_, rfl⟩; rw [H.out]; simp_all)

set_option maxRecDepth 100000 in
set_option maxHeartbeats 400000 in
theorem rByte_any (b : Int) (w : World) :
    Calls Tryz.prog 90 #[.int .u8 b] w fun e w' => e = .returned (.bool (bByte b)) ∧ w = w' := by
  have H := Lib.hid (bByte_eq b)
  go_enter Tryz.func90, Tryz.ntmps90
  go_wp2_with (first | (go_at_call 89; refine (rStart_any _ _).mono ?_; rintro e w' ⟨rfl, rfl⟩) | (go_at_call 115; refine (rDigit_any _ _).mono ?_; rintro e w' ⟨rfl, rfl⟩))
  all_goals (go_ret; refine ⟨ret_bool ?_, rfl⟩; rw [H.out]; simp_all)

end
section
open Go.RowKit Go.PlainAid
set_option maxRecDepth 100000 in
set_option maxHeartbeats 1000000 in
theorem rForm_low (s : ByteArray) (i : Nat) (hi : i < s.size) (h0 : bt s i < 194 ∨ 244 < bt s i) (w : World) :
    Calls Tryz.prog 91 #[.string s, .int .i64 i] w fun e w' => e = .returned (.tuple #[.int .i32 (formS s i).1, .int .i64 (formS s i).2]) ∧ w = w' := by
  have hb := get_bt s
  have l0 := bt_nonneg s i; have u0 := bt_le s i
  by_cases ha : bt s i < 128
  · have hf : formS s i = (bt s i, 1) := by unfold formS formI; rw [if_pos ha]
    have H := Lib.hid hf; clear hf
    go_enter Tryz.func91, Tryz.ntmps91
    go_wp2
    go_ret2
    exact ⟨ret2p H.out, rfl⟩
  · have hf : formS s i = (-1, 1) := by unfold formS formI; rw [if_neg ha, if_neg (by omega), if_neg (by omega), if_neg (by omega)]
    have H := Lib.hid hf; clear hf
    by_cases h2 : bt s i < 194
    all_goals
      go_enter Tryz.func91, Tryz.ntmps91
      go_wp2
      go_ret2
      exact ⟨ret2p H.out, rfl⟩

set_option maxRecDepth 100000 in
set_option maxHeartbeats 1000000 in
theorem rForm_two (s : ByteArray) (i : Nat) (hs : s.size ≤ 1000000000000000) (hi : i < s.size) (h0 : 194 ≤ bt s i) (h1 : bt s i ≤ 223) (w : World) :
    Calls Tryz.prog 91 #[.string s, .int .i64 i] w fun e w' => e = .returned (.tuple #[.int .i32 (formS s i).1, .int .i64 (formS s i).2]) ∧ w = w' := by
  have hb := get_bt s
  have hf : formS s i = if 2 ≤ s.size - i ∧ bt s (i + 1) / 64 = 2 then (bt s i % 32 * 64 + bt s (i + 1) % 64, 2) else (-1, 1) := by
    unfold formS formI; rw [if_neg (by omega), if_pos (by omega)]
  have H := Lib.hid hf; clear hf
  have l1 := bt_nonneg s (i + 1); have u1 := bt_le s (i + 1)
  have a1 := and192 s; have a2 := ne128 s
  by_cases h2 : i + 2 ≤ s.size
  · go_enter Tryz.func91, Tryz.ntmps91
    go_wp2
    go_rounds 4
    all_goals go_ret2
    all_goals (refine ⟨ret2p ?_, rfl⟩; rw [H.out])
    all_goals (split <;> first | rfl | (exfalso; omega) | (apply Prod.ext <;> simp only <;> omega))
  · go_enter Tryz.func91, Tryz.ntmps91
    go_wp2
    go_ret2
    exact ⟨ret2p (by rw [H.out, if_neg (by omega)]), rfl⟩

set_option maxRecDepth 100000 in
set_option maxHeartbeats 1000000 in
theorem rForm_three (s : ByteArray) (i : Nat) (hs : s.size ≤ 1000000000000000) (hi : i < s.size) (h0 : 224 ≤ bt s i) (h1 : bt s i ≤ 239) (w : World) :
    Calls Tryz.prog 91 #[.string s, .int .i64 i] w fun e w' => e = .returned (.tuple #[.int .i32 (formS s i).1, .int .i64 (formS s i).2]) ∧ w = w' := by
  have hb := get_bt s
  have hf : formS s i = if 3 ≤ s.size - i ∧ bt s (i + 1) / 64 = 2 ∧ bt s (i + 2) / 64 = 2 ∧ 2048 ≤ (bt s i % 16 * 64 + bt s (i + 1) % 64) * 64 + bt s (i + 2) % 64 ∧ ((bt s i % 16 * 64 + bt s (i + 1) % 64) * 64 + bt s (i + 2) % 64 < 55296 ∨ 57343 < (bt s i % 16 * 64 + bt s (i + 1) % 64) * 64 + bt s (i + 2) % 64)
      then ((bt s i % 16 * 64 + bt s (i + 1) % 64) * 64 + bt s (i + 2) % 64, 3) else (-1, 1) := by
    unfold formS formI; rw [if_neg (by omega), if_neg (by omega), if_pos (by omega)]
  have H := Lib.hid hf; clear hf
  have l1 := bt_nonneg s (i + 1); have u1 := bt_le s (i + 1)
  have l2 := bt_nonneg s (i + 2); have u2 := bt_le s (i + 2)
  have a1 := and192 s; have a2 := ne128 s
  by_cases h2 : i + 3 ≤ s.size
  · go_enter Tryz.func91, Tryz.ntmps91
    go_wp2
    go_rounds 4
    all_goals go_ret2
    all_goals (refine ⟨ret2p ?_, rfl⟩; rw [H.out])
    all_goals (split <;> first | rfl | (exfalso; omega) | (apply Prod.ext <;> simp only <;> omega))
  · go_enter Tryz.func91, Tryz.ntmps91
    go_wp2
    go_ret2
    exact ⟨ret2p (by rw [H.out, if_neg (by omega)]), rfl⟩

set_option maxRecDepth 100000 in
set_option maxHeartbeats 1000000 in
theorem rForm_four (s : ByteArray) (i : Nat) (hs : s.size ≤ 1000000000000000) (hi : i < s.size) (h0 : 240 ≤ bt s i) (h1 : bt s i ≤ 244) (w : World) :
    Calls Tryz.prog 91 #[.string s, .int .i64 i] w fun e w' => e = .returned (.tuple #[.int .i32 (formS s i).1, .int .i64 (formS s i).2]) ∧ w = w' := by
  have hb := get_bt s
  have hf : formS s i = if 4 ≤ s.size - i ∧ bt s (i + 1) / 64 = 2 ∧ bt s (i + 2) / 64 = 2 ∧ bt s (i + 3) / 64 = 2 ∧ 65536 ≤ ((bt s i % 8 * 64 + bt s (i + 1) % 64) * 64 + bt s (i + 2) % 64) * 64 + bt s (i + 3) % 64 ∧ ((bt s i % 8 * 64 + bt s (i + 1) % 64) * 64 + bt s (i + 2) % 64) * 64 + bt s (i + 3) % 64 ≤ 1114111
      then (((bt s i % 8 * 64 + bt s (i + 1) % 64) * 64 + bt s (i + 2) % 64) * 64 + bt s (i + 3) % 64, 4) else (-1, 1) := by
    unfold formS formI; rw [if_neg (by omega), if_neg (by omega), if_neg (by omega), if_pos (by omega)]
  have H := Lib.hid hf; clear hf
  have l1 := bt_nonneg s (i + 1); have u1 := bt_le s (i + 1)
  have l2 := bt_nonneg s (i + 2); have u2 := bt_le s (i + 2)
  have l3 := bt_nonneg s (i + 3); have u3 := bt_le s (i + 3)
  have a1 := and192 s; have a2 := ne128 s
  by_cases h2 : i + 4 ≤ s.size
  · go_enter Tryz.func91, Tryz.ntmps91
    go_wp2
    go_rounds 4
    all_goals go_ret2
    all_goals (refine ⟨ret2p ?_, rfl⟩; rw [H.out])
    all_goals (split <;> first | rfl | (exfalso; omega) | (apply Prod.ext <;> simp only <;> omega))
  · go_enter Tryz.func91, Tryz.ntmps91
    go_wp2
    go_ret2
    exact ⟨ret2p (by rw [H.out, if_neg (by omega)]), rfl⟩

theorem rForm_in (s : ByteArray) (i : Nat) (hs : s.size ≤ 1000000000000000) (hi : i < s.size) (w : World) :
    Calls Tryz.prog 91 #[.string s, .int .i64 i] w fun e w' => e = .returned (.tuple #[.int .i32 (formS s i).1, .int .i64 (formS s i).2]) ∧ w = w' := by
  by_cases h : bt s i < 194 ∨ 244 < bt s i
  · exact rForm_low s i hi h w
  by_cases h2 : bt s i ≤ 223
  · exact rForm_two s i hs hi (by omega) h2 w
  by_cases h3 : bt s i ≤ 239
  · exact rForm_three s i hs hi (by omega) h3 w
  · exact rForm_four s i hs hi (by omega) (by omega) w

set_option maxRecDepth 100000 in
set_option maxHeartbeats 1000000 in
/-- The reference's Form at every text and every place. -/
theorem rForm_any (s : ByteArray) (i : Int) (hs : s.size ≤ 1000000000000000) (w : World) :
    Calls Tryz.prog 91 #[.string s, .int .i64 i] w fun e w' => e = .returned (.tuple #[.int .i32 (formZ s i).1, .int .i64 (formZ s i).2]) ∧ w = w' := by
  by_cases h : i < 0 ∨ (s.size : Int) ≤ i
  · have hf : formZ s i = (-1, 0) := by unfold formZ; rw [if_pos h]
    have H := Lib.hid hf; clear hf
    by_cases h2 : i < 0
    all_goals
      go_enter Tryz.func91, Tryz.ntmps91
      go_wp2
      go_ret2
      exact ⟨ret2p H.out, rfl⟩
  · have hf : formZ s i = formS s i.toNat := by unfold formZ; rw [if_neg h]
    obtain ⟨k, rfl⟩ := Int.eq_ofNat_of_zero_le (show 0 ≤ i by omega)
    rw [hf]
    exact rForm_in s k hs (by omega) w

end
end

section
section
open Go.RowKit Go.PlainAid Go.Lib
/-- The two tables of unicode/utf8 as their initialisers lay them. -/
abbrev Tabs (w : World) : Prop := Lib.Utf8Tabs 1 2 w

theorem Tabs.below {B : Nat} {w w' : World} (h : Tabs w) (hB : 1 < B ∧ 2 < B) (hb : Below B w w') : Tabs w' :=
  ⟨fun c hc => (hb.cell (p := ⟨1, c, none⟩) (by show 1 < B; omega)).trans (h.1 c hc),
   fun i hi => ⟨(hb.cell (p := ⟨2, 2 * i, none⟩) (by show 2 < B; omega)).trans (h.2 i hi).1, (hb.cell (p := ⟨2, 2 * i + 1, none⟩) (by show 2 < B; omega)).trans (h.2 i hi).2⟩⟩

theorem Tabs.two {w : World} (h : Tabs w) : 1 < w.heap.size ∧ 2 < w.heap.size := by
  have h1 := (h.2 0 (by omega)).1
  have h0 := h.1 0 (by omega)
  by_cases e1 : 2 < w.heap.size
  · by_cases e0 : 1 < w.heap.size
    · omega
    · exfalso
      have : w.heap[1]? = none := Array.getElem?_eq_none (by omega)
      simp [World.cell?, this] at h0
  · exfalso
    have : w.heap[2]? = none := Array.getElem?_eq_none (by omega)
    simp [World.cell?, this] at h1

/-- The tables stand in every later world. -/
theorem Tabs.later {w w' : World} (h : Tabs w) (hb : Below w.heap.size w w') : Tabs w' := h.below h.two hb

theorem bt_extract (s : ByteArray) (i k : Nat) : bt (s.extract i s.size) k = bt s (i + k) := by
  unfold bt
  by_cases h : i + k < s.size
  · rw [dif_pos (by simp; omega), dif_pos h]
    simp [ByteArray.getElem_extract]
  · rw [dif_neg (by simp; omega), dif_neg h]

theorem formS_extract (s : ByteArray) (i : Nat) : formS (s.extract i s.size) 0 = formS s i := by
  unfold formS
  rw [bt_extract, bt_extract, bt_extract, bt_extract]
  have : (s.extract i s.size).size - 0 = s.size - i := by simp
  rw [this]
  rfl

set_option maxRecDepth 100000 in
set_option maxHeartbeats 1000000 in
/-- utf.At at every text and place. -/
theorem at_any (s : ByteArray) (i : Int) (w : World) (hT : Tabs w) :
    Calls Tryz.prog 95 #[.string s, .int .i64 i] w fun e w' => e = .returned (.tuple #[.int .i32 (formZ s i).1, .int .i64 (formZ s i).2]) ∧ Below w.heap.size w w' := by
  by_cases h : i < 0 ∨ (s.size : Int) ≤ i
  · have hf : formZ s i = (-1, 0) := by unfold formZ; rw [if_pos h]
    have H := Lib.hid hf; clear hf
    by_cases h2 : i < 0
    all_goals
      go_enter Tryz.func95, Tryz.ntmps95
      go_wp2
      go_ret2
      exact ⟨ret2p H.out, Below.refl _ _⟩
  · have hf : formZ s i = formS s i.toNat := by unfold formZ; rw [if_neg h]
    obtain ⟨k, rfl⟩ := Int.eq_ofNat_of_zero_le (show 0 ≤ i by omega)
    rw [hf]; clear hf
    have hk : k < s.size := by omega
    have hd : decodeGo (s.extract k s.size) = Utf8.decode (s.extract k s.size) 0 := by
      unfold decodeGo; rw [if_neg (by simp; omega)]
    have c := Tryz.utf8_DecodeRuneInString (s.extract k s.size) w hT
    rw [hd] at c
    have hb := broke_decode (s.extract k s.size) 0
    rw [formS_extract s k] at hb
    show Calls _ _ _ _ fun e w' => e = .returned (.tuple #[.int .i32 (formS s k).1, .int .i64 (formS s k).2]) ∧ Below w.heap.size w w'
    rcases hde : Utf8.decode (s.extract k s.size) 0 with ⟨d, e⟩
    rw [hde] at c hb
    clear hde hd
    unfold broke at hb
    by_cases hq : d = 65533 ∧ e = 1
    · rw [if_pos hq] at hb
      obtain ⟨rfl, rfl⟩ := hq
      have H := Lib.hid hb; clear hb
      go_enter Tryz.func95, Tryz.ntmps95
      go_wp2_with (go_at_call 84; refine c.mono ?_; rintro e w' ⟨rfl, hB⟩)
      go_ret2
      exact ⟨ret2p H.out.symm, hB⟩
    · rw [if_neg hq] at hb
      have H := Lib.hid hb; clear hb
      by_cases h1 : d = 65533
      · have h2 : ((e : Int) == 1) = false := by simp; omega
        have h1' : ((d : Int) == 65533) = true := by simp; omega
        clear h1
        go_enter Tryz.func95, Tryz.ntmps95
        go_wp2_with (go_at_call 84; refine c.mono ?_; rintro e w' ⟨rfl, hB⟩)
        go_ret2
        exact ⟨ret2p H.out.symm, hB⟩
      · have h1' : ((d : Int) == 65533) = false := by simp; omega
        clear h1
        go_enter Tryz.func95, Tryz.ntmps95
        go_wp2_with (go_at_call 84; refine c.mono ?_; rintro e w' ⟨rfl, hB⟩)
        go_ret2
        exact ⟨ret2p H.out.symm, hB⟩

end
section
open Go.RowKit Go.PlainAid Go.Lib
/-- What Check hands back of the first broken byte's place. -/
def spotV (k : Int) : Value := if 0 ≤ k then .agg #[.int .i64 6, .int .i64 k] else .agg #[.int .i64 0, .int .i64 0]

def ChkI (s : ByteArray) (B : Bool) (L pos : Nat) : Prop :=
  (B = false → brk s 0 = brk s pos) ∧ (B = true → L < s.size ∧ pos = L + wd s L ∧ brk s 0 = brk s L ∧ (Utf8.decode s L).1 = 65533)

theorem chk_next {s : ByteArray} {L pos : Nat} (hp : pos < s.size) (h : ChkI s false L pos) : ChkI s (((Utf8.decode s pos).1 : Int) == 65533) pos (pos + wd s pos) := by
  have h0 := h.1 rfl
  refine ⟨fun hb => ?_, fun hb => ⟨hp, rfl, h0, ?_⟩⟩
  · rw [h0, brk_step s pos hp, if_neg]
    intro hr
    have := (rn_broken s pos).1 hr
    simp [this.1] at hb
  · have := beq_iff_eq.1 hb
    omega

theorem chk_past {s : ByteArray} {L pos : Nat} (h : ChkI s true L pos) (h1 : pos - L ≠ 1) : ChkI s false L pos := by
  obtain ⟨hL, rfl, h0, _⟩ := h.2 rfl
  refine ⟨fun _ => ?_, fun hb => by cases hb⟩
  rw [h0, brk_step s L hL, if_neg]
  intro hr
  have := (rn_broken s L).1 hr
  omega

theorem chk_hit {s : ByteArray} {L pos : Nat} (h : ChkI s true L pos) (h1 : pos - L = 1) : spotV (brk s 0) = .agg #[.int .i64 6, .int .i64 L] := by
  obtain ⟨hL, rfl, h0, h2⟩ := h.2 rfl
  have : rn s L < 0 := (rn_broken s L).2 ⟨h2, by omega⟩
  rw [h0, brk_step s L hL, if_pos this]
  unfold spotV
  rw [if_pos (by omega)]

theorem chk_end {s : ByteArray} {L pos : Nat} (hp : ¬ pos < s.size) (h : ChkI s false L pos) : spotV (brk s 0) = .agg #[.int .i64 0, .int .i64 0] := by
  rw [h.1 rfl, brk_end s pos (by omega)]
  rfl

theorem ret_val {a b : Value} (h : b = a) : Ending.returned a = .returned b := by rw [h]

set_option maxRecDepth 100000 in
set_option maxHeartbeats 1000000 in
theorem check_any (s : ByteArray) (w : World) (hs : s.size ≤ 1000000000000000) :
    Calls Tryz.prog 41 #[.string s] w fun e w' => e = .returned (spotV (brk s 0)) ∧ Below w.heap.size w w' := by
  go_enter Tryz.func41, Tryz.ntmps41
  go_wp2
  have hsz : (w.alloc (.cells #[.int .i64 0, .int .i64 0] 34)).heap.size = w.heap.size + 1 := World.size_alloc _ _
  go_loopw [3, 4] (fun l b w' => ∃ (L pos : Nat) (B : Bool), w' = (w.alloc (.cells #[.int .i64 0, .int .i64 0] 34)).alloc (.stringIter s pos) ∧ l = .int .i64 L ∧ b = .bool B ∧ L ≤ pos ∧ pos ≤ s.size ∧ ChkI s B L pos) (fun _ _ w' => s.size - w'.iterPos (w.heap.size + 1))
  case atStart => exact ⟨0, 0, false, rfl, rfl, rfl, Nat.le_refl _, Nat.zero_le _, fun _ => rfl, fun h => by cases h⟩
  case round =>
    obtain ⟨L, pos, B, rfl, rfl, rfl, hL, hle, hI⟩ := hrel
    by_cases hp : pos < s.size
    · have hnx := next_at (P := Tryz.prog) hsz s pos hp
      have hwd := wd_pos s pos hp
      have hin := wd_in s pos hp
      have hst := Lib.hid (brk_step s pos hp)
      have HI := Lib.hid hI; clear hI
      have hm : s.size - (((w.alloc (.cells #[.int .i64 0, .int .i64 0] 34)).alloc (.stringIter s (pos + wd s pos))).iterPos (w.heap.size + 1)) < s.size - (((w.alloc (.cells #[.int .i64 0, .int .i64 0] 34)).alloc (.stringIter s pos)).iterPos (w.heap.size + 1)) := by
        rw [iterPos_at hsz, iterPos_at hsz]; omega
      have HM := Lib.hid hm; clear hm
      cases B with
      | false =>
        go_wp2
        go_roundw
        case rel => exact ⟨pos, pos + wd s pos, _, rfl, rfl, rfl, by omega, hin, chk_next hp HI.out⟩
        case measure => exact HM.out
      | true =>
        by_cases h1 : pos - L = 1
        · have h1' : ((pos : Int) - (L : Int) == 1) = true := by simp; omega
          go_wp2
          go_returns
          exact ⟨ret_val (chk_hit HI.out h1), ((Below.refl _ w).alloc (Nat.le_refl _) _).alloc (by simp) _⟩
        · have h1' : ((pos : Int) - (L : Int) == 1) = false := by simp; omega
          go_wp2
          go_roundw
          case rel => exact ⟨pos, pos + wd s pos, _, rfl, rfl, rfl, by omega, hin, chk_next hp (chk_past HI.out h1)⟩
          case measure => exact HM.out
    · have hnx := next_end (P := Tryz.prog) hsz s pos hp
      have HI := Lib.hid hI; clear hI
      cases B with
      | false =>
        go_wp2
        go_returns
        exact ⟨ret_val (chk_end hp HI.out), ((Below.refl _ w).alloc (Nat.le_refl _) _).alloc (by simp) _⟩
      | true =>
        by_cases h1 : s.size - L = 1
        · have h1' : ((s.size : Int) - (L : Int) == 1) = true := by simp; omega
          go_wp2
          go_returns
          exact ⟨ret_val (chk_hit HI.out (by omega)), ((Below.refl _ w).alloc (Nat.le_refl _) _).alloc (by simp) _⟩
        · have h1' : ((s.size : Int) - (L : Int) == 1) = false := by simp; omega
          go_wp2
          go_returns
          exact ⟨ret_val (chk_end hp (chk_past HI.out (by omega))), ((Below.refl _ w).alloc (Nat.le_refl _) _).alloc (by simp) _⟩

end
section
open Go.RowKit Go.PlainAid
theorem blank_all : ∀ n : Fin 256, decide (0 ≤ Lib.indexByte [9, 10, 13, 32] ((n.val : Int).toNat.toUInt8)) = bBlank (n.val : Int) := by decide +kernel

theorem blank_at (b : Int) (h0 : 0 ≤ b) (h1 : b < 256) : decide (0 ≤ Lib.indexByte [9, 10, 13, 32] b.toNat.toUInt8) = bBlank b := by
  have := blank_all ⟨b.toNat, by omega⟩
  simpa [Int.toNat_of_nonneg h0] using this

set_option maxRecDepth 100000 in
set_option maxHeartbeats 400000 in
theorem blank_any (b : Int) (h0 : 0 ≤ b) (h1 : b < 256) (w : World) :
    Calls Tryz.prog 94 #[.int .u8 b] w fun e w' => e = .returned (.bool (bBlank b)) ∧ w = w' := by
  have H := Lib.hid (blank_at b h0 h1)
  have c := Tryz.strings_IndexByte ⟨#[9, 10, 13, 32]⟩ b w
  change Calls _ _ _ _ (fun e w' => e = .returned (.int .i64 (Lib.indexByte [9, 10, 13, 32] b.toNat.toUInt8)) ∧ w' = w) at c
  generalize Lib.indexByte [9, 10, 13, 32] b.toNat.toUInt8 = r at c H
  go_enter Tryz.func94, Tryz.ntmps94
  go_wp2_with (go_at_call 116; refine c.mono ?_; rintro e w' ⟨rfl, rfl⟩)
  go_ret
  exact ⟨ret_bool H.out, rfl⟩

/-- All bytes of a text are of one kind. -/
def allB (p : Int → Bool) (s : ByteArray) : Bool := decide (∀ k, k < s.size → p (bt s k) = true)

theorem allB_true {p : Int → Bool} {s : ByteArray} (h : ∀ k, k < s.size → p (bt s k) = true) : allB p s = true := decide_eq_true h

theorem allB_false {p : Int → Bool} {s : ByteArray} {k : Nat} (hk : k < s.size) (h : p (bt s k) = false) : allB p s = false :=
  decide_eq_false fun g => by rw [g k hk] at h; cases h

def wordB (p : Int → Bool) (s : ByteArray) : Bool := allB p s && decide (s.size ≠ 0)

theorem wordB_pos {p : Int → Bool} {s : ByteArray} (h : wordB p s = true) : 0 < s.size := by
  unfold wordB at h
  rw [Bool.and_eq_true] at h
  have := of_decide_eq_true h.2
  omega

def nameB (s : ByteArray) : Bool := allB bByte s && decide (s.size ≠ 0) && bStart (bt s 0)

theorem ne_empty (s : ByteArray) : (!s.toList.isEmpty) = decide (s.size ≠ 0) := by
  rw [Lib.toList_data, Lib.size_eq]
  cases s.data.toList <;> simp

set_option maxRecDepth 100000 in
set_option maxHeartbeats 1000000 in
theorem allName_any (s : ByteArray) (w : World) (hs : s.size ≤ 1000000000000000) :
    Calls Tryz.prog 144 #[.string s, .func (.func 97) #[] #[]] w fun e w' => e = .returned (.bool (wordB bByte s)) ∧ w = w' := by
  have hb := get_bt s
  have H := Lib.hid (ne_empty s)
  go_enter Tryz.func144, Tryz.ntmps144
  go_wp2
  go_loop [8] (fun i => ∃ (pos : Nat), i = .int .i64 pos ∧ pos ≤ s.size ∧ ∀ k, k < pos → bByte (bt s k) = true) (fun i => s.size - (Go.RowKit.intOf i).toNat)
  case atStart => exact ⟨0, rfl, Nat.zero_le _, fun k hk => absurd hk (by omega)⟩
  case round =>
    obtain ⟨pos, rfl, hle, hall⟩ := hrel
    have HA := Lib.hid hall; clear hall
    by_cases hp : pos < s.size
    · have l0 := bt_nonneg s pos; have u0 := bt_le s pos
      have c := nameByte_any (bt s pos) l0 (by omega) w
      cases hB : bByte (bt s pos) with
      | false =>
        rw [hB] at c
        have HB := Lib.hid hB; clear hB
        go_wp2_with (go_at_call 97; refine c.mono ?_; rintro e w' ⟨rfl, rfl⟩)
        go_ret
        exact ⟨ret_bool (by unfold wordB; rw [allB_false hp HB.out]; rfl), rfl⟩
      | true =>
        rw [hB] at c
        have HB := Lib.hid hB; clear hB
        go_wp2_with (go_at_call 97; refine c.mono ?_; rintro e w' ⟨rfl, rfl⟩)
        go_round
        case rel => exact ⟨pos + 1, by go_num, by omega, fun k hk => by by_cases e : k = pos; { subst e; exact HB.out }; exact HA.out k (by omega)⟩
        case measure => simp [Go.RowKit.intOf]; omega
    · go_wp2
      go_ret
      refine ⟨ret_bool ?_, rfl⟩
      unfold wordB
      rw [H.out, allB_true (fun k hk => HA.out k (by omega))]
      rfl

theorem nameB_eq (s : ByteArray) : nameB s = (wordB bByte s && bStart (bt s 0)) := rfl

set_option maxRecDepth 100000 in
set_option maxHeartbeats 1000000 in
theorem name_any (s : ByteArray) (w : World) (hs : s.size ≤ 1000000000000000) :
    Calls Tryz.prog 113 #[.string s] w fun e w' => e = .returned (.bool (nameB s)) ∧ w = w' := by
  have hb := get_bt s
  have c := allName_any s w hs
  have l0 := bt_nonneg s 0; have u0 := bt_le s 0
  have HE := Lib.hid (nameB_eq s)
  cases hW : wordB bByte s with
  | false =>
    rw [hW] at c
    have HW := Lib.hid hW; clear hW
    go_enter Tryz.func113, Tryz.ntmps113
    go_wp2_with (go_at_call 144; refine c.mono ?_; rintro e w' ⟨rfl, rfl⟩)
    go_ret
    exact ⟨ret_bool (by rw [HE.out, HW.out]; rfl), rfl⟩
  | true =>
    have hp := wordB_pos hW
    rw [hW] at c
    have HW := Lib.hid hW; clear hW
    go_enter Tryz.func113, Tryz.ntmps113
    go_wp2_with (first | (go_at_call 144; refine c.mono ?_; rintro e w' ⟨rfl, rfl⟩) | (go_at_call 96; refine (nameStart_any _ (by omega) (by omega) _).mono ?_; rintro e w' ⟨rfl, rfl⟩))
    go_ret
    exact ⟨ret_bool (by rw [HE.out, HW.out]; rfl), rfl⟩

def NameI (s : ByteArray) (pos : Nat) : Prop := (∀ k, k < pos → bByte (bt s k) = true) ∧ (0 < pos → bStart (bt s 0) = true)

theorem nameI_zero (s : ByteArray) : NameI s 0 := ⟨fun k hk => absurd hk (by omega), fun h => absurd h (by omega)⟩

theorem nameI_one {s : ByteArray} (h1 : bStart (bt s 0) = true) (h2 : bByte (bt s 0) = true) : NameI s 1 :=
  ⟨fun k hk => by obtain rfl : k = 0 := by omega
                  exact h2, fun _ => h1⟩

theorem nameI_succ {s : ByteArray} {pos : Nat} (h : NameI s pos) (h0 : pos ≠ 0) (h2 : bByte (bt s pos) = true) : NameI s (pos + 1) :=
  ⟨fun k hk => by
    by_cases e : k = pos
    · subst e; exact h2
    · exact h.1 k (by omega), fun _ => h.2 (by omega)⟩

theorem name_no1 {s : ByteArray} (h : bStart (bt s 0) = false) : nameB s = false := by unfold nameB; rw [h]; simp

theorem name_no2 {s : ByteArray} {pos : Nat} (hp : pos < s.size) (h : bByte (bt s pos) = false) : nameB s = false := by unfold nameB; rw [allB_false hp h]; rfl

set_option maxRecDepth 100000 in
set_option maxHeartbeats 1000000 in
theorem rName_any (s : ByteArray) (w : World) (hs : s.size ≤ 1000000000000000) :
    Calls Tryz.prog 64 #[.string s] w fun e w' => e = .returned (.bool (nameB s)) ∧ w = w' := by
  have hb := get_bt s
  have H := Lib.hid (ne_empty s)
  go_enter Tryz.func64, Tryz.ntmps64
  go_wp2
  go_loop [3] (fun i => ∃ (pos : Nat), i = .int .i64 pos ∧ pos ≤ s.size ∧ NameI s pos) (fun i => s.size - (Go.RowKit.intOf i).toNat)
  case atStart => exact ⟨0, rfl, Nat.zero_le _, nameI_zero s⟩
  case round =>
    obtain ⟨pos, rfl, hle, hI⟩ := hrel
    have HI := Lib.hid hI; clear hI
    by_cases hp : pos < s.size
    · have l0 := bt_nonneg s pos; have u0 := bt_le s pos
      have c := rByte_any (bt s pos) w
      have cS := rStart_any (bt s pos) w
      by_cases h0 : pos = 0
      · subst h0
        cases hS : bStart (bt s 0) with
        | false =>
          rw [hS] at cS
          have HB := Lib.hid hS; clear hS c
          go_wp2_with (go_at_call 89; refine cS.mono ?_; rintro e w' ⟨rfl, rfl⟩)
          go_ret
          exact ⟨ret_bool (name_no1 HB.out).symm, rfl⟩
        | true =>
          rw [hS] at cS
          have HC := Lib.hid hS; clear hS
          cases hB : bByte (bt s 0) with
          | false =>
            rw [hB] at c
            have HB := Lib.hid hB; clear hB
            go_wp2_with (first | (go_at_call 89; refine cS.mono ?_; rintro e w' ⟨rfl, rfl⟩) | (go_at_call 90; refine c.mono ?_; rintro e w' ⟨rfl, rfl⟩))
            go_ret
            exact ⟨ret_bool (name_no2 hp HB.out).symm, rfl⟩
          | true =>
            rw [hB] at c
            have HB := Lib.hid hB; clear hB
            go_wp2_with (first | (go_at_call 89; refine cS.mono ?_; rintro e w' ⟨rfl, rfl⟩) | (go_at_call 90; refine c.mono ?_; rintro e w' ⟨rfl, rfl⟩))
            go_round
            case rel => exact ⟨1, by go_num, by omega, nameI_one HC.out HB.out⟩
            case measure => simp [Go.RowKit.intOf]; omega
      · have h0' : ((pos : Int) == 0) = false := by simp; omega
        cases hB : bByte (bt s pos) with
        | false =>
          rw [hB] at c
          have HB := Lib.hid hB; clear hB
          go_wp2_with (go_at_call 90; refine c.mono ?_; rintro e w' ⟨rfl, rfl⟩)
          go_ret
          exact ⟨ret_bool (name_no2 hp HB.out).symm, rfl⟩
        | true =>
          rw [hB] at c
          have HB := Lib.hid hB; clear hB
          go_wp2_with (go_at_call 90; refine c.mono ?_; rintro e w' ⟨rfl, rfl⟩)
          go_round
          case rel => exact ⟨pos + 1, by go_num, by omega, nameI_succ HI.out h0 HB.out⟩
          case measure => simp [Go.RowKit.intOf]; omega
    · by_cases hz : s.size = 0
      · go_wp2
        go_ret
        refine ⟨ret_bool ?_, rfl⟩
        unfold nameB
        rw [H.out]
        simp [hz]
      · go_wp2
        go_ret
        refine ⟨ret_bool ?_, rfl⟩
        unfold nameB
        rw [H.out, allB_true (fun k hk => HI.out.1 k (by omega)), HI.out.2 (by omega)]
        simp

end
end

section
section
open Go.RowKit Go.PlainAid
/-- '[]byte(s)': a new row that holds the text's bytes and may be written. -/
theorem conv_bytes {P : Program} (w : World) (src dst e : TypeId) (s : ByteArray) (hs : P.underlying src = some .string) (hd : P.underlying dst = some (.slice e)) (he : P.underlying e = some (.int .u8)) :
    ∃ (cap : Nat) (w1 : World), (convert src dst (.string s)).run P w = .ok (.slice (some ⟨w.heap.size, 0, none⟩) s.size cap) w1 ∧ Below w.heap.size w w1 ∧ w1.heap.size = w.heap.size + 1 ∧
      ∀ j, j < s.size → w1.cell? ⟨w.heap.size, j, none⟩ = some (.int .u8 (bt s j)) ∧ w1.frozen? ⟨w.heap.size, j, none⟩ = false := by
  refine ⟨_, _, Lib.run_convert_string_bytes w src dst e s hs hd he, ⟨rfl, rfl, rfl, by rw [Lib.bytesWorld_size]; omega, fun k hk => Lib.bytesWorld_at_old w e s k hk⟩, Lib.bytesWorld_size w e s, fun j hj => ⟨?_, ?_⟩⟩
  · rw [Lib.bytesWorld_cell w e s j hj, ← get_bt s j hj]
    simp [List.getD, hj]
    rfl
  · have h : s.size ≤ (Lib.bytesCells w e s).size := by simp [Lib.bytesCells]
    simp only [World.frozen?, Lib.bytesWorld_at_new]
    simp; omega

def lowC (c : UInt8) : UInt8 := if 65 ≤ c.toNat ∧ c.toNat ≤ 90 then c + 32 else c

def mapB (f : UInt8 → UInt8) (s : ByteArray) : ByteArray := ⟨s.data.map f⟩

theorem mapB_size (f : UInt8 → UInt8) (s : ByteArray) : (mapB f s).size = s.size := Array.size_map

theorem mapB_get (f : UInt8 → UInt8) (s : ByteArray) (k : Nat) (h : k < s.size) (h' : k < (mapB f s).size) : (mapB f s)[k]'h' = f (s[k]'h) :=
  Array.getElem_map (f := f) (xs := s.data) (i := k) h'

def low (s : ByteArray) : ByteArray := mapB lowC s

theorem low_all : ∀ n : Fin 256, ((lowC (UInt8.ofNat n.val)).toNat : Int) = (if 65 ≤ (n.val : Int) ∧ (n.val : Int) < 91 then bits .xor .u8 (n.val : Int) 32 else (n.val : Int)) := by decide +kernel

/-- What 'turn' makes of a byte. -/
def Turns (fr : Int) (f : UInt8 → UInt8) : Prop := ∀ c : UInt8, ((f c).toNat : Int) = (if fr ≤ (c.toNat : Int) ∧ (c.toNat : Int) < fr + 26 then bits .xor .u8 (c.toNat : Int) 32 else (c.toNat : Int))

theorem turns_low : Turns 65 lowC := fun c => by have := low_all ⟨c.toNat, c.toNat_lt⟩; simpa using this

/-- The row behind k rounds: the first k bytes turned. -/
def TurnI (B : Nat) (f : UInt8 → UInt8) (s : ByteArray) (k : Nat) (w : World) : Prop :=
  ∀ j (h : j < s.size), w.cell? ⟨B, j, none⟩ = some (.int .u8 (if j < k then ((f (s[j]'h)).toNat : Int) else bt s j)) ∧ w.frozen? ⟨B, j, none⟩ = false

theorem turnI_keep {B : Nat} {f : UInt8 → UInt8} {s : ByteArray} {k : Nat} {w : World} (hk : k < s.size) (h : TurnI B f s k w) (he : ((f (s[k]'hk)).toNat : Int) = bt s k) : TurnI B f s (k + 1) w := fun j hj => by
  refine ⟨?_, (h j hj).2⟩
  rw [(h j hj).1]
  by_cases e : j = k
  · subst e
    rw [if_neg (by omega), if_pos (by omega), he]
  · by_cases e2 : j < k
    · rw [if_pos e2, if_pos (by omega)]
    · rw [if_neg e2, if_neg (by omega)]

theorem turnI_set {B : Nat} {f : UInt8 → UInt8} {s : ByteArray} {k : Nat} {w : World} (hk : k < s.size) (h : TurnI B f s k w) (x : Int) (he : ((f (s[k]'hk)).toNat : Int) = x) : TurnI B f s (k + 1) (w.setCell ⟨B, k, none⟩ (.int .u8 x)) := fun j hj => by
  refine ⟨?_, by rw [World.frozen?_setCell]; exact (h j hj).2⟩
  by_cases e : j = k
  · subst e
    rw [World.cell?_setCell_same' _ _ _ (by rw [(h j hj).1]; rfl), if_pos (by omega), he]
  · rw [World.cell?_setCell_other _ _ _ _ (by first | (simp; done) | (simp; omega)), (h j hj).1]
    by_cases e2 : j < k
    · rw [if_pos e2, if_pos (by omega)]
    · rw [if_neg e2, if_neg (by omega)]

set_option maxRecDepth 100000 in
set_option maxHeartbeats 1000000 in
theorem turn_any (fr : Int) (f : UInt8 → UInt8) (hf : Turns fr f) (h0 : 0 ≤ fr) (h1 : fr ≤ 200) (s : ByteArray) (w : World) (hs : s.size ≤ 1000000000000000) :
    Calls Tryz.prog 147 #[.string s, .int .u8 fr] w fun e w' => e = .returned (.string (mapB f s)) ∧ Below w.heap.size w w' := by
  have hb := get_bt s
  obtain ⟨cap, w1, hc, hB1, hz1, hr1⟩ := conv_bytes (P := Tryz.prog) w 9 78 5 s Tryz.underlying9 Tryz.underlying78 Tryz.underlying5
  have HF := Lib.hid hf; clear hf
  have HR := Lib.hid hr1; clear hr1
  have HZ := Lib.hid hz1; clear hz1
  go_enter Tryz.func147, Tryz.ntmps147
  go_wp2
  go_loopw [12] (fun i wr => ∃ (pos : Nat), i = .int .i64 pos ∧ pos ≤ s.size ∧ Below w.heap.size w wr ∧ TurnI w.heap.size f s pos wr) (fun i _ => s.size - (Go.RowKit.intOf i).toNat)
  case atStart => exact ⟨0, rfl, Nat.zero_le _, hB1, fun j hj => by rw [if_neg (by omega)]; exact HR.out j hj⟩
  case round =>
    obtain ⟨pos, rfl, hle, hB, hI⟩ := hrel
    have HI := Lib.hid hI; clear hI
    by_cases hp : pos < s.size
    · have l0 := bt_nonneg s pos; have u0 := bt_le s pos
      obtain ⟨hc0, hf0⟩ := HI.out pos hp
      rw [if_neg (by omega)] at hc0
      have hx := HF.out (s[pos]'hp)
      rw [get_bt s pos hp] at hx
      have HX := Lib.hid hx; clear hx
      by_cases h1 : fr ≤ bt s pos ∧ bt s pos < fr + 26
      · obtain ⟨h1, h2⟩ := h1
        go_wp2
        go_roundw
        case rel => exact ⟨pos + 1, by go_num, by omega, hB.setCell (Nat.le_refl _) _, turnI_set hp HI.out _ (by rw [HX.out, if_pos ⟨h1, h2⟩])⟩
        case measure => simp [Go.RowKit.intOf]; omega
      · by_cases h1' : fr ≤ bt s pos
        all_goals
          go_wp2
          go_roundw
          case rel => exact ⟨pos + 1, by go_num, by omega, hB, turnI_keep hp HI.out (by rw [HX.out, if_neg h1])⟩
          case measure => simp [Go.RowKit.intOf]; omega
    · have hpos : pos = s.size := by omega
      have hby : Lib.Bytes wr w.heap.size 0 (mapB f s) := fun i hi => by
        rw [mapB_size] at hi
        rw [mapB_get f s i hi, Nat.zero_add, (HI.out i hi).1, if_pos (by omega)]
      have hback := Lib.run_convert_whole (P := Tryz.prog) wr 78 5 9 Tryz.underlying78 Tryz.underlying5 Tryz.underlying9 _ _ _ hby cap
      rw [mapB_size] at hback
      clear hpos
      go_wp2
      go_ret
      exact ⟨rfl, hB⟩

set_option maxRecDepth 100000 in
set_option maxHeartbeats 400000 in
theorem lower_any (s : ByteArray) (w : World) (hs : s.size ≤ 1000000000000000) :
    Calls Tryz.prog 121 #[.string s] w fun e w' => e = .returned (.string (low s)) ∧ Below w.heap.size w w' := by
  have c := turn_any 65 lowC turns_low (by decide) (by decide) s w hs
  change Calls _ _ _ _ (fun e w' => e = .returned (.string (low s)) ∧ Below w.heap.size w w') at c
  go_enter Tryz.func121, Tryz.ntmps121
  go_wp2_with (go_at_call 147; refine c.mono ?_; rintro e w' ⟨rfl, hB⟩)
  go_ret
  exact ⟨rfl, hB⟩

end
section
open Go.RowKit Go.PlainAid
theorem bt_sub (s : ByteArray) (a b k : Nat) (h : k < b - a) (hb : b ≤ s.size) : bt (s.extract a b) k = bt s (a + k) := by
  unfold bt
  rw [dif_pos (by simp; omega), dif_pos (by omega)]
  simp [ByteArray.getElem_extract]

theorem size_sub (s : ByteArray) (a b : Nat) (hb : b ≤ s.size) : (s.extract a b).size = b - a := by simp; omega

end
section
open Go.RowKit
/-- A block holds just these cells, none of them frozen. -/
def Blk (w : World) (b : Nat) (cs : Array Value) : Prop := ∃ t, w.heap[b]? = some (.cells cs t (0, 0))

theorem Blk.cell {w : World} {b : Nat} {cs : Array Value} (h : Blk w b cs) (o : Nat) : w.cell? ⟨b, o, none⟩ = cs[o]? := by
  obtain ⟨t, h⟩ := h
  simp [World.cell?, h]

theorem Blk.free {w : World} {b : Nat} {cs : Array Value} (h : Blk w b cs) (o : Nat) : w.frozen? ⟨b, o, none⟩ = false := by
  obtain ⟨t, h⟩ := h
  simp [World.frozen?, h]

theorem Blk.lt {w : World} {b : Nat} {cs : Array Value} (h : Blk w b cs) : b < w.heap.size := by
  obtain ⟨t, h⟩ := h
  exact (Array.getElem?_eq_some_iff.1 h).1

theorem Blk.new (w : World) (cs : Array Value) (t : TypeId) : Blk (w.alloc (.cells cs t)) w.heap.size cs := ⟨t, by show (w.heap.push _)[w.heap.size]? = _; simp⟩

theorem Blk.new' (w : World) (cs : Array Value) (t : TypeId) (b : Nat) (hb : b = w.heap.size) : Blk (w.alloc (.cells cs t)) b cs := by subst hb; exact Blk.new w cs t

theorem Blk.later {B : Nat} {w w' : World} {b : Nat} {cs : Array Value} (h : Blk w b cs) (hB : Below B w w') (hb : b < B) : Blk w' b cs := by
  obtain ⟨t, h⟩ := h
  exact ⟨t, (hB.block b hb).trans h⟩

theorem Blk.on {w w' : World} {b : Nat} {cs : Array Value} (h : Blk w b cs) (hB : Below w.heap.size w w') : Blk w' b cs := h.later hB h.lt

theorem Blk.alloc {w : World} {b : Nat} {cs : Array Value} (h : Blk w b cs) (o : Obj) : Blk (w.alloc o) b cs := h.on ((Below.refl _ _).alloc (Nat.le_refl _) o)

theorem Blk.set {w : World} {b : Nat} {cs : Array Value} (h : Blk w b cs) (i : Nat) (v : Value) : Blk (w.setCell ⟨b, i, none⟩ v) b (cs.setIfInBounds i v) := by
  obtain ⟨t, h⟩ := h
  exact ⟨t, Go.Joins.block_setCell h v⟩

theorem Blk.other {w : World} {b : Nat} {cs : Array Value} (h : Blk w b cs) (c i : Nat) (v : Value) (hb : b ≠ c) : Blk (w.setCell ⟨c, i, none⟩ v) b cs := by
  obtain ⟨t, h⟩ := h
  refine ⟨t, ?_⟩
  rw [← h]
  simp only [World.setCell]
  rw [Array.getElem?_modify, if_neg (fun e => hb e.symm)]

end
section
open Go.RowKit Go.PlainAid
/-- A slice of ints that reads as a row of digits. -/
def Ints (w : World) (v : Value) (l : List Nat) : Prop :=
  (l = [] ∧ ∃ a cap, v = .slice a 0 cap) ∨ ∃ g o cap, v = .slice (some ⟨g, o, none⟩) l.length cap ∧ g < w.heap.size ∧ l.length ≤ cap ∧ cap ≤ maxLen ∧ ∀ j (hj : j < l.length), w.cell? ⟨g, o + j, none⟩ = some (.int .i64 (l[j] : Int))

theorem Ints.later {B : Nat} {w w' : World} {v : Value} {l : List Nat} (h : Ints w v l) (hb : Below B w w') (hB : w.heap.size ≤ B) : Ints w' v l := by
  rcases h with h | ⟨g, o, cap, hv, hg, hc, hm, hcell⟩
  · exact .inl h
  · exact .inr ⟨g, o, cap, hv, Nat.lt_of_lt_of_le hg hb.size, hc, hm, fun j hj => (hb.cell (p := ⟨g, o + j, none⟩) (by show g < B; omega)).trans (hcell j hj)⟩

theorem Ints.form {w : World} {v : Value} {l : List Nat} (h : Ints w v l) (n : Nat) (hn : l.length = n) : ∃ a cap, v = .slice a n cap := by
  subst hn
  rcases h with ⟨rfl, a, cap, rfl⟩ | ⟨g, o, cap, rfl, _⟩
  · exact ⟨_, _, rfl⟩
  · exact ⟨_, _, rfl⟩

end
section
open Go.RowKit Go.PlainAid
/-- How an element lies in memory: its type, its cells, what is known of the type. -/
structure ETy (α : Type) where
  T : TypeId
  ST : TypeId
  sz : Nat
  bs : Nat
  z : Value
  enc : α → List Value
  hsz : 0 < sz
  hbs : bs ≤ 1000
  hlen : ∀ x, (enc x).length = sz
  hz : z.cells.size = sz
  info : (Tryz.prog.info? T).map (fun i => (i.zero, i.size, i.bytes)) = some (some z, sz, bs)
  und : Tryz.prog.underlying ST = some (.slice T)
  hone : ∀ x, ∀ u ∈ enc x, u.oneCell' = true

def ETy.cs {α : Type} (E : ETy α) (l : List α) : List Value := l.flatMap E.enc

theorem ETy.cs_len {α : Type} (E : ETy α) : ∀ l : List α, (E.cs l).length = l.length * E.sz
  | [] => by simp [ETy.cs]
  | x :: l => by
    have ih := E.cs_len l
    unfold ETy.cs at ih ⊢
    rw [List.flatMap_cons, List.length_append, ih, E.hlen, List.length_cons, Nat.succ_mul, Nat.add_comm]

theorem ETy.cs_at {α : Type} (E : ETy α) : ∀ (l : List α) (j : Nat) (hj : j < l.length) (i : Nat), i < E.sz → (E.cs l)[j * E.sz + i]? = (E.enc l[j])[i]?
  | [], j, hj, _, _ => absurd hj (by simp)
  | x :: l, 0, _, i, hi => by
    unfold ETy.cs
    rw [List.flatMap_cons, Nat.zero_mul, Nat.zero_add, List.getElem?_append_left (by rw [E.hlen]; exact hi)]
    rfl
  | x :: l, j + 1, hj, i, hi => by
    have ih := E.cs_at l j (by simp at hj; omega) i hi
    unfold ETy.cs at ih ⊢
    rw [List.flatMap_cons, List.getElem?_append_right (by rw [E.hlen, Nat.succ_mul]; omega), E.hlen, show (j + 1) * E.sz + i - E.sz = j * E.sz + i by rw [Nat.succ_mul]; omega, ih]
    rfl

/-- A slice of elements that a call has made (its block lies at base or behind). -/
def GRow {α : Type} (E : ETy α) (base : Nat) (w : World) (v : Value) (l : List α) : Prop := w.ownsRow base E.T E.sz v l.length (E.cs l)

/-- A slice that reads as elements. -/
def GAt {α : Type} (E : ETy α) (w : World) (v : Value) (l : List α) : Prop :=
  ∃ a cap, v = .slice a l.length cap ∧ ∀ j (hj : j < l.length), ∃ g off, a = some ⟨g, off, none⟩ ∧ g < w.heap.size ∧ ∀ i, i < E.sz → w.cell? ⟨g, off + (j * E.sz + i), none⟩ = (E.enc l[j])[i]?

theorem GRow.nil {α : Type} (E : ETy α) (base : Nat) (w : World) : GRow E base w (.slice none 0 0) [] := World.ownsRow_nil _ _ _ _

theorem GRow.read {α : Type} {E : ETy α} {base : Nat} {w : World} {v : Value} {l : List α} (h : GRow E base w v l) :
    (l = [] ∧ v = .slice none 0 0) ∨ ∃ g cap, v = .slice (some ⟨g, 0, none⟩) l.length cap ∧ base ≤ g ∧ g < w.heap.size ∧ l.length ≤ cap ∧ cap ≤ maxLen ∧ ∀ j (hj : j < l.length) i, i < E.sz → w.cell? ⟨g, j * E.sz + i, none⟩ = (E.enc l[j])[i]? := by
  obtain ⟨h1, h2⟩ := id h
  rcases h2 with ⟨hv, hn⟩ | ⟨g, cap, cur, hv, hg, hh, hc, hm, hs, ht⟩
  · exact .inl ⟨List.eq_nil_of_length_eq_zero hn, hv⟩
  · refine .inr ⟨g, cap, hv, hg, (Array.getElem?_eq_some_iff.1 hh).1, hc, hm, fun j hj i hi => ?_⟩
    have h' : w.ownsRow base E.T E.sz (.slice (some ⟨g, 0, none⟩) l.length cap) l.length (E.cs l) := by rw [← hv]; exact h
    rw [World.ownsRow.cellAt h' (j * E.sz + i) (by calc j * E.sz + i < j * E.sz + E.sz := by omega
      _ = (j + 1) * E.sz := by rw [Nat.succ_mul]
      _ ≤ l.length * E.sz := Nat.mul_le_mul_right _ hj), E.cs_at l j hj i hi]

theorem GRow.at' {α : Type} {E : ETy α} {base : Nat} {w : World} {v : Value} {l : List α} (h : GRow E base w v l) : GAt E w v l := by
  rcases h.read with ⟨rfl, rfl⟩ | ⟨g, cap, rfl, _, h1, _, _, h2⟩
  · exact ⟨_, _, rfl, fun j hj => absurd hj (by simp)⟩
  · exact ⟨_, _, rfl, fun j hj => ⟨g, 0, rfl, h1, fun i hi => by rw [Nat.zero_add]; exact h2 j hj i hi⟩⟩

theorem GRow.later {α : Type} {E : ETy α} {base : Nat} {w w' : World} {v : Value} {l : List α} (h : GRow E base w v l) (hb : ∀ g, v.ownBlock = some g → w'.heap[g]? = w.heap[g]?) : GRow E base w' v l := by
  obtain ⟨h1, h2⟩ := h
  refine ⟨h1, ?_⟩
  rcases h2 with h2 | ⟨g, cap, cur, hv, hg, hh, r⟩
  · exact .inl h2
  · exact .inr ⟨g, cap, cur, hv, hg, (hb g (by rw [hv]; rfl)).trans hh, r⟩

theorem GRow.lt {α : Type} {E : ETy α} {base : Nat} {w : World} {v : Value} {l : List α} (h : GRow E base w v l) : ∀ g, v.ownBlock = some g → g < w.heap.size := by
  intro g hg
  rcases h.2 with ⟨rfl, _⟩ | ⟨g', cap, cur, rfl, _, hh, _⟩
  · simp [Value.ownBlock] at hg
  · simp [Value.ownBlock] at hg
    subst hg
    exact (Array.getElem?_eq_some_iff.1 hh).1

theorem GRow.kind {α : Type} {E : ETy α} {base : Nat} {w : World} {v : Value} {l : List α} (h : GRow E base w v l) : ∀ g, v.ownBlock = some g → ∃ c, w.heap[g]? = some (.cells c E.T (0, 0)) := by
  intro g hg
  rcases h.2 with ⟨rfl, _⟩ | ⟨g', cap, cur, rfl, _, hh, _⟩
  · simp [Value.ownBlock] at hg
  · simp [Value.ownBlock] at hg
    subst hg
    exact ⟨cur, hh⟩

theorem GRow.on {α : Type} {E : ETy α} {base : Nat} {w w' : World} {v : Value} {l : List α} (h : GRow E base w v l) (hb : Below w.heap.size w w') : GRow E base w' v l :=
  h.later fun g hg => hb.block g (h.lt g hg)

theorem GRow.snoc {α : Type} {E : ETy α} {base : Nat} {w : World} {v : Value} {l : List α} {x : α} (h : w.ownsRow base E.T E.sz v (l.length + 1) (E.cs l ++ E.enc x)) : GRow E base w v (l ++ [x]) := by
  unfold GRow
  have e : E.cs (l ++ [x]) = E.cs l ++ E.enc x := by unfold ETy.cs; simp
  rw [e, List.length_append]
  exact h

theorem GRow.own {α : Type} {E : ETy α} {base : Nat} {w : World} {v : Value} {l : List α} (h : GRow E base w v l) : ∀ k, v.ownBlock = some k → base ≤ k := fun k hk => (World.ownsRow.lt h k hk).1

theorem GRow.form {α : Type} {E : ETy α} {base : Nat} {w : World} {v : Value} {l : List α} (h : GRow E base w v l) : ∃ a cap, v = .slice a l.length cap := by
  rcases h.read with ⟨rfl, rfl⟩ | ⟨g, cap, rfl, _⟩
  · exact ⟨_, _, rfl⟩
  · exact ⟨_, _, rfl⟩

theorem GRow.frz {α : Type} {E : ETy α} {base : Nat} {w : World} {g n cap : Nat} {l : List α} (h : GRow E base w (.slice (some ⟨g, 0, none⟩) n cap) l) (j : Nat) : w.frozen? ⟨g, j, none⟩ = false := by
  rcases h.2 with ⟨hv, _⟩ | ⟨g', cap', cur, hv, _, hh, _⟩
  · cases hv
  · have e1 : g = g' := by injection hv with e; injection e with e; injection e
    subst e1
    simp [World.frozen?, hh]

theorem GRow.mono {α : Type} {E : ETy α} {base base' : Nat} {w : World} {v : Value} {l : List α} (h : GRow E base w v l) (hb : base' ≤ base) : GRow E base' w v l := by
  obtain ⟨h1, h2⟩ := h
  refine ⟨h1, ?_⟩
  rcases h2 with h2 | ⟨g, cap, cur, hv, hg, r⟩
  · exact .inl h2
  · exact .inr ⟨g, cap, cur, hv, Nat.le_trans hb hg, r⟩

theorem GAt.later {α : Type} {E : ETy α} {w w' : World} {v : Value} {l : List α} (h : GAt E w v l) (hs : w.heap.size ≤ w'.heap.size) (hb : ∀ g, v.ownBlock = some g → w'.heap[g]? = w.heap[g]?) : GAt E w' v l := by
  obtain ⟨a, cap, rfl, h⟩ := h
  refine ⟨a, cap, rfl, fun j hj => ?_⟩
  obtain ⟨g, off, rfl, hg, hc⟩ := h j hj
  refine ⟨g, off, rfl, by omega, fun i hi => ?_⟩
  rw [← hc i hi]
  simp only [World.cell?, hb g rfl]

theorem GAt.on {α : Type} {E : ETy α} {w w' : World} {v : Value} {l : List α} (h : GAt E w v l) (hb : Below w.heap.size w w') : GAt E w' v l := by
  obtain ⟨a, cap, rfl, h⟩ := h
  refine ⟨a, cap, rfl, fun j hj => ?_⟩
  obtain ⟨g, off, rfl, hg, hc⟩ := h j hj
  refine ⟨g, off, rfl, by have := hb.size; omega, fun i hi => ?_⟩
  rw [← hc i hi]
  simp only [World.cell?, hb.block g hg]

theorem GAt.form {α : Type} {E : ETy α} {w : World} {v : Value} {l : List α} (h : GAt E w v l) : ∃ a cap, v = .slice a l.length cap := by
  obtain ⟨a, cap, rfl, _⟩ := h
  exact ⟨_, _, rfl⟩

/-- One element put behind, in a block of its own that was laid last. -/
theorem wpList_snoc_g {α : Type} (E : ETy α) {ops : Array Oper} {rest : List Oper} {o : Oper} {a : Act} {Q : Exit → Act → World → Prop} {w : World} (x : α) (hgd : o.guard = none) (s y : Operand)
    (ho : o.op = .call { callee := .builtin .append, args := #[s, y], argTypes := #[E.ST, E.ST] })
    (base : Nat) (v : Value) (l : List α) (hs : a.eval s = v) (hrow : GRow E base w v l) (c : Nat) (g : Nat) (hx : a.eval y = .slice (some ⟨g, 0, none⟩) 1 c) (hg : Blk w g (E.enc x).toArray) (hlen : l.length ≤ 100000000)
    (hz : base ≤ w.heap.size)
    (h : ∀ v' w', GRow E base w' v' (l ++ [x]) → w.grownBy w' v.ownBlock → wpList Tryz.prog ops Q rest (a.put o.dst v') w') : wpList Tryz.prog ops Q (o :: rest) a w := by
  obtain ⟨i0, hi, hz0, hz1, hz2⟩ := info_parts E.info
  refine wpList_append_own _ hgd s y E.ST ho base E.T i0 E.z E.sz E.bs E.und hi hz0 hz1 hz2 E.hz E.hsz v l.length _ hs hrow ⟨g, 0, none⟩ 1 c (E.enc x) hx (by rw [E.hlen, Nat.one_mul]) (fun j u hu => ?_) (E.hone x) (by unfold maxLen; omega) ?_ hz ?_
  · rw [Lib.add_plain, hg.cell, Nat.zero_add]
    simpa using hu
  · calc (l.length + 1) * E.bs ≤ (l.length + 1) * 1000 := Nat.mul_le_mul_left _ E.hbs
      _ ≤ 140737488355328 := by omega
  intro v' w' hown' hgrow _
  exact h v' w' (GRow.snoc hown') hgrow

/-- .. in a region that draws its order. -/
theorem step_snoc_g {α : Type} (E : ETy α) {ops : Array Oper} {o : Oper} {a : Act} {K : Act → World → Prop} {Q : Exit → Act → World → Prop} {EE : Prop} {w : World} (x : α) (hgd : o.guard = none) (s y : Operand)
    (ho : o.op = .call { callee := .builtin .append, args := #[s, y], argTypes := #[E.ST, E.ST] })
    (base : Nat) (v : Value) (l : List α) (hs : a.eval s = v) (hrow : GRow E base w v l) (c : Nat) (g : Nat) (hx : a.eval y = .slice (some ⟨g, 0, none⟩) 1 c) (hg : Blk w g (E.enc x).toArray) (hlen : l.length ≤ 100000000)
    (hz : base ≤ w.heap.size)
    (h : ∀ v' w', GRow E base w' v' (l ++ [x]) → w.grownBy w' v.ownBlock → K (a.put o.dst v') w') : if Region.wanted o (yielded ops a.tmps) = true then Oper.wp Tryz.prog o a w K Q else EE := by
  have hw : Region.wanted o (yielded ops a.tmps) = true := by simp [Region.wanted, hgd]
  rw [if_pos hw]
  obtain ⟨i0, hi, hz0, hz1, hz2⟩ := info_parts E.info
  refine wp_append_own _ s y E.ST ho base E.T i0 E.z E.sz E.bs E.und hi hz0 hz1 hz2 E.hz E.hsz v l.length _ hs hrow ⟨g, 0, none⟩ 1 c (E.enc x) hx (by rw [E.hlen, Nat.one_mul]) (fun j u hu => ?_) (E.hone x) (by unfold maxLen; omega) ?_ hz ?_
  · rw [Lib.add_plain, hg.cell, Nat.zero_add]
    simpa using hu
  · calc (l.length + 1) * E.bs ≤ (l.length + 1) * 1000 := Nat.mul_le_mul_left _ E.hbs
      _ ≤ 140737488355328 := by omega
  intro v' w' hown' hgrow _
  exact h v' w' (GRow.snoc hown') hgrow

/-- What growing a row keeps. -/
theorem grown_below {B : Nat} {w w' : World} {v : Value} (hg : w.grownBy w' v.ownBlock) (hB : B ≤ w.heap.size) (hv : ∀ k, v.ownBlock = some k → B ≤ k) : Below B w w' := (Below.refl B w).grown hg hB hv

/-- An element turned in place, where each takes one cell. -/
theorem GRow.set1 {α : Type} {E : ETy α} (h1 : E.sz = 1) {base : Nat} {w : World} {v : Value} {l : List α} (h : GRow E base w v l) (j : Nat) (hj : j < l.length) (x : α) (u : Value) (hu : E.enc x = [u]) :
    ∃ g cap, v = .slice (some ⟨g, 0, none⟩) l.length cap ∧ GRow E base (w.setCell ⟨g, j, none⟩ u) v (l.set j x) := by
  obtain ⟨h0, h2⟩ := h
  rcases h2 with ⟨_, hn⟩ | ⟨g, cap, cur, hv, hg, hh, hc, hm, hs, ht⟩
  · omega
  refine ⟨g, cap, hv, by rw [E.cs_len], .inr ⟨g, cap, cur.setIfInBounds j u, by rw [List.length_set]; exact hv, hg, Go.Joins.block_setCell hh _, by rw [List.length_set]; exact hc, hm, by rw [Array.size_setIfInBounds]; exact hs, ?_⟩⟩
  have hset : ∀ (l : List α) (j : Nat), E.cs (l.set j x) = (E.cs l).set j u := by
    intro l
    induction l with
    | nil => intro j; rfl
    | cons y l ih =>
      intro j
      have hy := E.hlen y
      rw [h1] at hy
      obtain ⟨c, hc⟩ := List.length_eq_one_iff.1 hy
      cases j with
      | zero =>
        show E.enc x ++ E.cs l = (E.enc y ++ E.cs l).set 0 u
        rw [hu, hc]
        rfl
      | succ j =>
        show E.enc y ++ E.cs (l.set j x) = (E.enc y ++ E.cs l).set (j + 1) u
        rw [ih j, hc]
        rfl
  rw [List.length_set, Array.toList_setIfInBounds, List.take_set, ht, hset]

end
end

section
section
open Go.RowKit Go.PlainAid
/-- Nothing that was there has turned but block b. -/
structure Only (b : Nat) (w w' : World) : Prop where
  os : w'.os = w.os
  tape : w'.tape = w.tape
  output : w'.output = w.output
  size : w.heap.size ≤ w'.heap.size
  block : ∀ k, k < w.heap.size → k ≠ b → w'.heap[k]? = w.heap[k]?

theorem Only.trans {b : Nat} {a c d : World} (h : Only b a c) (k : Only b c d) : Only b a d :=
  ⟨k.os.trans h.os, k.tape.trans h.tape, k.output.trans h.output, Nat.le_trans h.size k.size, fun i hi hb => (k.block i (Nat.lt_of_lt_of_le hi h.size) hb).trans (h.block i hi hb)⟩

theorem Only.setCell {b : Nat} {a w : World} (h : Only b a w) (o : Nat) (u : Value) : Only b a (w.setCell ⟨b, o, none⟩ u) :=
  h.trans ⟨rfl, rfl, rfl, by simp [World.setCell], fun k _ hk => Below.heap_setCell _ _ _ _ hk⟩

end
section
open Go.RowKit Go.PlainAid
theorem tl_yes {X : ByteArray} {l : List UInt8} (h : X = ⟨l.toArray⟩) : (X.toList == l) = true := by
  rw [h, Lib.toList_data]
  simp

theorem tl_no {X : ByteArray} {l : List UInt8} (h : X ≠ ⟨l.toArray⟩) : (X.toList == l) = false := by
  rw [Lib.toList_data]
  simp only [beq_eq_false_iff_ne, ne_eq]
  intro g
  refine h ?_
  apply ByteArray.ext
  rw [← g]

theorem GRow.form' {α : Type} {E : ETy α} {base : Nat} {w : World} {v : Value} {l : List α} (h : GRow E base w v l) : ∃ a n c, v = .slice a n c := by
  obtain ⟨a, c, h⟩ := h.form
  exact ⟨_, _, _, h⟩

end
section
open Go.RowKit Go.PlainAid
/-- One element put behind; the row lies where it lay, or in a block that is new. -/
theorem wpList_snoc_at {α : Type} (E : ETy α) {ops : Array Oper} {rest : List Oper} {o : Oper} {a : Act} {Q : Exit → Act → World → Prop} {w : World} (x : α) (hgd : o.guard = none) (s y : Operand)
    (ho : o.op = .call { callee := .builtin .append, args := #[s, y], argTypes := #[E.ST, E.ST] })
    (base : Nat) (v : Value) (l : List α) (hs : a.eval s = v) (hrow : GRow E base w v l) (c : Nat) (g : Nat) (hx : a.eval y = .slice (some ⟨g, 0, none⟩) 1 c) (hg : Blk w g (E.enc x).toArray) (hlen : l.length ≤ 100000000)
    (hz : base ≤ w.heap.size)
    (h : ∀ g' cap w', GRow E base w' (.slice (some ⟨g', 0, none⟩) (l.length + 1) cap) (l ++ [x]) → w.grownBy w' v.ownBlock → (v.ownBlock = some g' ∨ g' = w.heap.size) → wpList Tryz.prog ops Q rest (a.put o.dst (.slice (some ⟨g', 0, none⟩) (l.length + 1) cap)) w') : wpList Tryz.prog ops Q (o :: rest) a w := by
  obtain ⟨i0, hi, hz0, hz1, hz2⟩ := info_parts E.info
  refine wpList_append_lies w hgd s y E.ST ho base E.T i0 E.z E.sz E.bs E.und hi hz0 hz1 hz2 E.hz E.hsz v l.length _ hs hrow ⟨g, 0, none⟩ 1 c (E.enc x) hx (by rw [E.hlen, Nat.one_mul]) (fun j u hu => ?_) (E.hone x) (by decide) (by unfold maxLen; omega) ?_ hz _ rfl ?_
  · rw [Lib.add_plain, hg.cell, Nat.zero_add]
    simpa using hu
  · calc (l.length + 1) * E.bs ≤ (l.length + 1) * 1000 := Nat.mul_le_mul_left _ E.hbs
      _ ≤ 140737488355328 := by omega
  intro g' cap w' hown' hgrow hat _
  exact h g' cap w' (GRow.snoc hown') hgrow hat

theorem GRow.set {α : Type} {E : ETy α} {base : Nat} {w : World} {v : Value} {l : List α} (h : GRow E base w v l) (c i : Nat) (u : Value) (hc : c < base) : GRow E base (w.setCell ⟨c, i, none⟩ u) v l :=
  h.later fun g hg => Below.heap_setCell _ _ _ _ (by have h1 := h.own g hg; show g ≠ c; omega)

theorem blk_grown {w w' : World} {own : Option Nat} {b : Nat} {cs : Array Value} (hg : w.grownBy w' own) (h : Blk w b cs) (hne : own ≠ some b) : Blk w' b cs := by
  obtain ⟨t, h⟩ := h
  exact ⟨t, (hg.block b (lt_some h) (fun e => hne e.symm)).trans h⟩

theorem row_grown {α : Type} {E : ETy α} {base : Nat} {w w' : World} {own : Option Nat} {v : Value} {l : List α} (hg : w.grownBy w' own) (h : GRow E base w v l) (hne : ∀ g, v.ownBlock = some g → own ≠ some g) : GRow E base w' v l :=
  h.later fun g hv => hg.block g (h.lt g hv) (fun e => hne g hv e.symm)

end
section
open Go.RowKit Go.PlainAid
theorem bytes_ne {X : ByteArray} (h : X.size ≠ 0) : (X.toList == ([] : List UInt8)) = false := tl_no (fun e => h (by rw [e]; rfl))

theorem bytes_nil {X : ByteArray} (h : X.size = 0) : (X.toList == ([] : List UInt8)) = true := tl_yes (ByteArray.ext (Array.eq_empty_of_size_eq_zero h))

end
section
open Go.RowKit Go.PlainAid
theorem bytes_eqb (x y : ByteArray) : (x.toList == y.toList) = decide (x = y) := by
  by_cases h : x = y
  · subst h
    simp
  · rw [decide_eq_false h]
    have hne : x.toList ≠ y.toList := fun e => h (by
      have h1 : x = ⟨x.toList.toArray⟩ := (by
        have := tl_yes (X := x) (l := x.data.toList) (by cases x; simp)
        have h2 : x.toList = x.data.toList := by simpa using this
        rw [h2])
      have h3 : y = ⟨y.toList.toArray⟩ := (by
        have := tl_yes (X := y) (l := y.data.toList) (by cases y; simp)
        have h2 : y.toList = y.data.toList := by simpa using this
        rw [h2])
      rw [h1, h3, e])
    simpa using hne

end
end

section
open Go.RowKit Go.PlainAid

theorem cell_kept {W W' : World} {a : Addr} {u : Value} (h : W.cell? a = some u) (hB : Below W.heap.size W W') : W'.cell? a = some u := (hB.cell (p := a) (World.block_lt_of_cell? W a h)).trans h
/-- Below N, but for the block x, the world w' is as w was. -/
structure KeepX (N x : Nat) (w w' : World) : Prop where
  os : w'.os = w.os
  tape : w'.tape = w.tape
  output : w'.output = w.output
  size : w.heap.size ≤ w'.heap.size
  block : ∀ k, k < N → k ≠ x → w'.heap[k]? = w.heap[k]?
theorem KeepX.refl (N x : Nat) (w : World) : KeepX N x w w := ⟨rfl, rfl, rfl, Nat.le_refl _, fun _ _ _ => rfl⟩
theorem KeepX.trans {N x : Nat} {a b c : World} (h : KeepX N x a b) (k : KeepX N x b c) : KeepX N x a c :=
  ⟨k.os.trans h.os, k.tape.trans h.tape, k.output.trans h.output, Nat.le_trans h.size k.size, fun i hi hx => (k.block i hi hx).trans (h.block i hi hx)⟩
theorem KeepX.mono {N M x : Nat} {a b : World} (h : KeepX M x a b) (hM : N ≤ M) : KeepX N x a b := ⟨h.os, h.tape, h.output, h.size, fun k hk hx => h.block k (by omega) hx⟩
theorem KeepX.of {N x M : Nat} {a b : World} (h : Below M a b) (hM : N ≤ M) : KeepX N x a b := ⟨h.os, h.tape, h.output, h.size, fun k hk _ => h.block k (by omega)⟩
theorem KeepX.below {N x M : Nat} {a b : World} (h : KeepX N x a b) (hN : M ≤ N) (hx : M ≤ x) : Below M a b := ⟨h.os, h.tape, h.output, h.size, fun k hk => h.block k (by omega) (by omega)⟩
theorem KeepX.setCell {N x : Nat} {a w : World} (h : KeepX N x a w) (i : Nat) (v : Value) : KeepX N x a (w.setCell ⟨x, i, none⟩ v) :=
  h.trans ⟨rfl, rfl, rfl, by simp [World.setCell], fun k _ hx => Below.heap_setCell _ _ _ _ hx⟩
theorem KeepX.drew {N x : Nat} {a w : World} (h : KeepX N x a w) : KeepX N x a w.drew := ⟨h.os, h.tape, h.output, h.size, h.block⟩
theorem KeepX.on {N x : Nat} {a w w' : World} (h : KeepX N x a w) (hB : Below w.heap.size w w') (hN : N ≤ a.heap.size) : KeepX N x a w' :=
  h.trans (KeepX.of hB (Nat.le_trans hN h.size))
theorem KeepX.cell {N x : Nat} {w w' : World} (h : KeepX N x w w') {k j : Nat} (hk : k < N) (hx : k ≠ x) : w'.cell? ⟨k, j, none⟩ = w.cell? ⟨k, j, none⟩ := World.cell?_of_block (w := w) (h.block k hk hx)
theorem KeepX.blk {N x : Nat} {w w' : World} (h : KeepX N x w w') {b : Nat} {cs : Array Value} (hb : Blk w b cs) (hk : b < N) (hx : b ≠ x) : Blk w' b cs := by
  obtain ⟨t, hb⟩ := hb
  exact ⟨t, (h.block b hk hx).trans hb⟩
theorem Blk.lt' {w : World} {b : Nat} {cs : Array Value} (h : Blk w b cs) : b < w.heap.size := by
  obtain ⟨t, h⟩ := h
  exact lt_some h
theorem tl_size {X : ByteArray} (h : X.size = 0) : X = ⟨#[]⟩ := ByteArray.ext (Array.eq_empty_of_size_eq_zero h)
end

section
open Go.RowKit Go.PlainAid

/-- What reading comes to: an error and its place, or the place behind and what was read. -/
inductive Xr (α : Type) where
  | bad (e : Int) (at_ : Nat)
  | ok (p : Nat) (a : α)

abbrev At2 := ByteArray × ByteArray
/-- A token: its kind, name, attributes, text, place. -/
structure Tk where
  kind : Int
  name : ByteArray
  attrs : List At2
  text : ByteArray
  at_ : Nat

/-- Do these bytes stand there? -/
def wdAt (s : ByteArray) : Nat → List Int → Bool
  | _, [] => true
  | p, b :: l => (bt s p == b) && wdAt s (p + 1) l
/-- Behind the blanks. -/
def blkF (s : ByteArray) : Nat → Nat → Nat
  | 0, p => p
  | f + 1, p => if bBlank (bt s p) = true then blkF s f (p + 1) else p
def blk (s : ByteArray) (p : Nat) : Nat := blkF s (s.size - p) p
/-- Behind the bytes of a name. -/
def nmF (s : ByteArray) : Nat → Nat → Nat
  | 0, p => p
  | f + 1, p => if bByte (bt s p) = true then nmF s f (p + 1) else p
def nmE (s : ByteArray) (p : Nat) : Nat := nmF s (s.size - p) p
def nameX (s : ByteArray) (p : Nat) : Xr ByteArray :=
  if bStart (bt s p) = true then (if 64 < nmE s p - p then .bad 3 p else .ok (nmE s p) (s.extract p (nmE s p))) else .bad 140 p
/-- The first semicolon from a place on. -/
def smF (s : ByteArray) : Nat → Nat → Option Nat
  | 0, _ => none
  | f + 1, p => if bt s p = 59 then some p else smF s f (p + 1)
def semi (s : ByteArray) (p : Nat) : Option Nat := smF s (s.size - p) p
/-- A digit's number. -/
def digV (c : Int) : Int := if 48 ≤ c ∧ c ≤ 57 then c - 48 else if 97 ≤ c ∧ c ≤ 102 then c - 87 else if 65 ≤ c ∧ c ≤ 70 then c - 55 else 99
def numF (s : ByteArray) (base : Int) : Nat → Nat → Int → Option Int
  | 0, _, x => some x
  | f + 1, p, x => if digV (bt s p) < base then numF s base f (p + 1) (x * base + digV (bt s p)) else none
def numB (d : ByteArray) (base : Int) (most : Nat) : Option Int :=
  if d.size = 0 ∨ most < d.size then none else
    match numF d base d.size 0 0 with
    | none => none
    | some x => if rChar x = true then some x else none
/-- The number of a reference. -/
def numX (d : ByteArray) : Option Int := if bt d 0 = 120 then numB (d.extract 1 d.size) 16 6 else numB d 10 7
/-- One of the five. -/
def fiveX (b : ByteArray) : Option Int :=
  if b = ⟨#[108, 116]⟩ then some 60 else if b = ⟨#[103, 116]⟩ then some 62 else if b = ⟨#[97, 109, 112]⟩ then some 38 else if b = ⟨#[113, 117, 111, 116]⟩ then some 34 else if b = ⟨#[97, 112, 111, 115]⟩ then some 39 else none
/-- A reference's rune and its bytes' number, at the beginning of a text. -/
def refT (t : ByteArray) : Option (Int × Nat) :=
  match semi t 1 with
  | none => none
  | some e => match fiveX (t.extract 1 e) with
    | some r => some (r, e + 1)
    | none => if bt t 1 = 35 then (match numX (t.extract 2 e) with
        | none => none
        | some r => some (r, e + 1)) else none
/-- .. at a place. -/
def refX (s : ByteArray) (p : Nat) : Option (Int × Nat) := refT (s.extract p s.size)
/-- A rune as bytes. -/
def encB (r : Int) : ByteArray := ⟨(Lib.encodeRune r).toArray⟩
/-- A rune of a text, or a reference. -/
def pieceX (s : ByteArray) (p : Nat) : Xr ByteArray :=
  if bt s p = 38 then (match refX s p with
    | none => .bad 141 p
    | some (r, n) => .ok (p + n) (encB r))
  else if rChar (rn s p) = true then .ok (p + wd s p) (s.extract p (p + wd s p)) else .bad 140 p
def cmtF (s : ByteArray) : Nat → Nat → Xr Unit
  | 0, p => .bad 140 p
  | f + 1, p => if wdAt s p [45, 45] = true then (if bt s (p + 2) = 62 then .ok (p + 3) () else .bad 140 p) else
    if rChar (rn s p) = true then cmtF s f (p + wd s p) else .bad 140 p
/-- A comment, which begins there. -/
def cmtX (s : ByteArray) (p : Nat) : Xr Unit := cmtF s (s.size + 1 - p) (p + 4)
def isCmt (s : ByteArray) (p : Nat) : Bool := wdAt s p [60, 33, 45, 45]
def miscF (s : ByteArray) : Nat → Nat → Xr Unit
  | 0, p => .ok p ()
  | f + 1, p => if p < blk s p then miscF s f (blk s p) else if isCmt s p = true then (match cmtX s p with
      | .bad e a => .bad e a
      | .ok q _ => miscF s f q) else .ok p ()
/-- What may stand around the element. -/
def miscX (s : ByteArray) (p : Nat) : Xr Unit := miscF s (s.size + 1 - p) p
def valF (s : ByteArray) (q : Int) : Nat → Nat → ByteArray → Xr ByteArray
  | 0, p, _ => .bad 140 p
  | f + 1, p, acc => if bt s p = q then .ok (p + 1) acc else if s.size ≤ p ∨ bt s p = 60 then .bad 140 p else
    match pieceX s p with
    | .bad e a => .bad e a
    | .ok p' b => valF s q f p' (acc ++ b)
/-- A quoted value. -/
def valX (s : ByteArray) (p : Nat) : Xr ByteArray :=
  if bt s p = 34 ∨ bt s p = 39 then (match valF s (bt s p) (s.size + 1 - p) (p + 1) ⟨#[]⟩ with
    | .bad e a => .bad e a
    | .ok p' v => if 4096 < v.size then .bad 3 p else .ok p' v) else .bad 140 p
/-- An attribute behind others. -/
def attrX (s : ByteArray) (p : Nat) (l : List At2) : Xr At2 :=
  match nameX s p with
  | .bad e a => .bad e a
  | .ok q nm => if l.length = 16 then .bad 3 p else if (l.any fun a => decide (a.1 = nm)) = true then .bad 142 p else if bt s q = 61 then (match valX s (q + 1) with
      | .bad e a => .bad e a
      | .ok q' v => .ok q' (nm, v)) else .bad 140 q
def begF (s : ByteArray) : Nat → Nat → List At2 → Xr (Bool × List At2)
  | 0, p, _ => .bad 140 p
  | f + 1, p, l => if bt s (blk s p) = 62 then .ok (blk s p + 1) (false, l) else if bt s (blk s p) = 47 then (if bt s (blk s p + 1) = 62 then .ok (blk s p + 2) (true, l) else .bad 140 (blk s p + 1)) else
    if blk s p = p then .bad 140 (blk s p) else match attrX s (blk s p) l with
    | .bad e a => .bad e a
    | .ok q a => begF s f q (l ++ [a])
/-- The begin of an element, n others open: its name, whether it is a short one, its attributes. -/
def begX (s : ByteArray) (p n : Nat) : Xr (ByteArray × Bool × List At2) :=
  match nameX s (p + 1) with
  | .bad e a => .bad e a
  | .ok q nm => if n = 64 then .bad 3 p else match begF s (s.size + 1 - q) q [] with
    | .bad e a => .bad e a
    | .ok q' (sh, l) => .ok q' (nm, sh, l)
/-- The end of an element. -/
def endX (s : ByteArray) (p : Nat) (top : ByteArray) : Xr ByteArray :=
  match nameX s (p + 2) with
  | .bad e a => .bad e a
  | .ok q nm => if nm = top then (if bt s (blk s q) = 62 then .ok (blk s q + 1) nm else .bad 140 (blk s q)) else .bad 143 p
/-- The text ahead of a tag is told. -/
def tellX (out : List Tk) (text : ByteArray) (from_ : Option Nat) : Xr (List Tk) :=
  match from_ with
  | none => .ok 0 out
  | some a => if 4096 < text.size then .bad 3 a else .ok 0 (out ++ [⟨3, ⟨#[]⟩, [], text, a⟩])
def holdF (s : ByteArray) : Nat → Nat → List Tk → List ByteArray → ByteArray → Option Nat → Xr (List Tk)
  | 0, p, _, _, _, _ => .bad 140 p
  | f + 1, p, out, pile, text, from_ => if pile = [] then .ok p out else
    if isCmt s p = true then (match cmtX s p with
      | .bad e a => .bad e a
      | .ok q _ => holdF s f q out pile text from_)
    else if wdAt s p [60, 47] = true then (match tellX out text from_ with
      | .bad e a => .bad e a
      | .ok _ out' => match endX s p (pile.getLastD ⟨#[]⟩) with
        | .bad e a => .bad e a
        | .ok q nm => holdF s f q (out' ++ [⟨2, nm, [], ⟨#[]⟩, p⟩]) pile.dropLast ⟨#[]⟩ none)
    else if bt s p = 60 then (match tellX out text from_ with
      | .bad e a => .bad e a
      | .ok _ out' => match begX s p pile.length with
        | .bad e a => .bad e a
        | .ok q (nm, sh, l) => if sh = true then holdF s f q (out' ++ [⟨1, nm, l, ⟨#[]⟩, p⟩, ⟨2, nm, [], ⟨#[]⟩, p⟩]) pile ⟨#[]⟩ none
          else holdF s f q (out' ++ [⟨1, nm, l, ⟨#[]⟩, p⟩]) (pile ++ [nm]) ⟨#[]⟩ none)
    else if s.size ≤ p ∨ wdAt s p [93, 93, 62] = true then .bad 140 p else
      match pieceX s p with
      | .bad e a => .bad e a
      | .ok q b => holdF s f q out pile (text ++ b) (some (from_.getD p))
def declB : List Int := [60, 63, 120, 109, 108, 32, 118, 101, 114, 115, 105, 111, 110, 61, 34, 49, 46, 48, 34, 63, 62]
def declN : List Int := [60, 63, 120, 109, 108, 32, 118, 101, 114, 115, 105, 111, 110, 61, 34, 49, 46, 48, 34, 32, 101, 110, 99, 111, 100, 105, 110, 103, 61, 34, 85, 84, 70, 45, 56, 34, 63, 62]
/-- Behind the declaration. -/
def declX (s : ByteArray) : Xr Unit := if wdAt s 0 declB = true then .ok 21 () else if wdAt s 0 declN = true then .ok 38 () else if wdAt s 0 [60, 63] = true then .bad 140 0 else .ok 0 ()
/-- A file behind its declaration. -/
def bodyX (s : ByteArray) (p0 : Nat) : Xr (List Tk) :=
  match miscX s p0 with
  | .bad e a => .bad e a
  | .ok p _ => if bt s p = 60 then (match begX s p 0 with
      | .bad e a => .bad e a
      | .ok q (nm, sh, l) => match (if sh = true then holdF s (s.size + 1 - q) q [⟨1, nm, l, ⟨#[]⟩, p⟩, ⟨2, nm, [], ⟨#[]⟩, p⟩] [] ⟨#[]⟩ none else holdF s (s.size + 1 - q) q [⟨1, nm, l, ⟨#[]⟩, p⟩] [nm] ⟨#[]⟩ none) with
        | .bad e a => .bad e a
        | .ok r out => match miscX s r with
          | .bad e a => .bad e a
          | .ok z _ => if z = s.size then .ok z out else .bad 140 z) else .bad 140 p
def tokensX (s : ByteArray) : Xr (List Tk) :=
  if 262144 < s.size then .bad 3 262144 else if 0 ≤ brk s 0 then .bad 6 (brk s 0).toNat else
    match declX s with
    | .bad e a => .bad e a
    | .ok p _ => bodyX s p
def unF (s : ByteArray) : Nat → Nat → ByteArray → Xr ByteArray
  | 0, p, acc => .ok p acc
  | f + 1, p, acc => if s.size ≤ p then .ok p acc else if bt s p = 60 then .bad 140 p else match pieceX s p with
    | .bad e a => .bad e a
    | .ok q b => unF s f q (acc ++ b)
/-- What a text with references says. -/
def unescX (s : ByteArray) : Xr ByteArray := if 0 ≤ brk s 0 then .bad 6 (brk s 0).toNat else unF s (s.size + 1) 0 ⟨#[]⟩
/-- Does XML take all of a text? -/
def takenF (s : ByteArray) : Nat → Nat → Bool
  | 0, _ => true
  | f + 1, p => if s.size ≤ p then true else if rChar (rn s p) = true then takenF s f (p + wd s p) else false
def takenX (s : ByteArray) : Bool := takenF s (s.size + 1) 0
/-- A text with references for the four. -/
def escC (c : UInt8) : List UInt8 := if c = 38 then [38, 97, 109, 112, 59] else if c = 60 then [38, 108, 116, 59] else if c = 62 then [38, 103, 116, 59] else if c = 34 then [38, 113, 117, 111, 116, 59] else [c]
def escB (s : ByteArray) : ByteArray := ⟨(s.data.toList.flatMap escC).toArray⟩
end
end Go.Proofs.YtdipbfchlopeaaaGreatDoor
