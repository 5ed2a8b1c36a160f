/-
  Plain words for the layer utf, the second part: how many pieces a text has from a place on, and where its first broken byte is.
-/
import Derived.Test.YtbnhfjhhbgmhfaaDoorUtfP
import Derived.Laws.RangeAny
namespace Go.Proofs.YtbnhfjhhbgmhfaaDoor
open Go.RowKit Go.PlainAid

/-- The width of the piece at a place. -/
def wd (s : ByteArray) (i : Nat) : Nat := (Utf8.decode s i).2
/-- The rune of the piece at a place; -1 where no form begins. -/
def rn (s : ByteArray) (i : Nat) : Int := (formS s i).1

theorem formS_wd (s : ByteArray) (i : Nat) : (formS s i).2 = (wd s i : Int) := by
  have h := broke_decode s i
  unfold broke at h
  unfold wd
  rw [← h]
  split
  · rename_i hq; simp [hq.2]
  · rfl
theorem wd_pos (s : ByteArray) (i : Nat) (h : i < s.size) : 1 ≤ wd s i := Lib.decode_width_pos s i h
theorem wd_four (s : ByteArray) (i : Nat) : wd s i ≤ 4 := by
  have h := formS_wd s i
  unfold formS formI at h
  repeat' split at h
  all_goals simp at h; omega
theorem wd_in (s : ByteArray) (i : Nat) (h : i < s.size) : i + wd s i ≤ s.size := by
  have h := formS_wd s i
  unfold formS formI at h
  repeat' split at h
  all_goals simp at h; omega

theorem rn_broken (s : ByteArray) (i : Nat) : rn s i < 0 ↔ (Utf8.decode s i).1 = 65533 ∧ wd s i = 1 := by
  have h := broke_decode s i
  unfold broke at h
  unfold rn wd
  rw [← h]
  split
  · rename_i hq; simp [hq]
  · rename_i hq; simp only [hq, iff_false]; omega
theorem rn_broke (s : ByteArray) (i : Nat) (h : rn s i < 0) : rn s i = -1 := by
  have h' := broke_decode s i
  unfold broke at h'
  unfold rn at h ⊢
  rw [← h'] at h ⊢
  split
  · rfl
  · rename_i hq; rw [if_neg hq] at h; simp at h; omega
theorem rn_right (s : ByteArray) (i : Nat) (h : ¬ rn s i < 0) : rn s i = ((Utf8.decode s i).1 : Int) := by
  have h' := broke_decode s i
  unfold broke at h'
  unfold rn at h ⊢
  rw [← h'] at h ⊢
  split
  · rename_i hq; rw [if_pos hq] at h; simp at h
  · rfl

/-- How many pieces there are from a place on. -/
def cntF (s : ByteArray) : Nat → Nat → Nat
  | 0, _ => 0
  | f + 1, pos => if pos < s.size then 1 + cntF s f (pos + wd s pos) else 0
def cnt (s : ByteArray) (pos : Nat) : Nat := cntF s (s.size - pos) pos

theorem cntF_more (s : ByteArray) : ∀ f g pos, s.size ≤ pos + f → s.size ≤ pos + g → cntF s f pos = cntF s g pos
  | 0, 0, _, _, _ => rfl
  | 0, g + 1, pos, h, _ => by simp only [cntF]; rw [if_neg (by omega)]
  | f + 1, 0, pos, _, h => by simp only [cntF]; rw [if_neg (by omega)]
  | f + 1, g + 1, pos, h, h' => by
    simp only [cntF]
    split
    · rename_i hp
      have := wd_pos s pos hp
      rw [cntF_more s f g (pos + wd s pos) (by omega) (by omega)]
    · rfl
theorem cnt_step (s : ByteArray) (pos : Nat) (h : pos < s.size) : cnt s pos = 1 + cnt s (pos + wd s pos) := by
  have hw := wd_pos s pos h
  unfold cnt
  obtain ⟨f, hf⟩ : ∃ f, s.size - pos = f + 1 := ⟨s.size - pos - 1, by omega⟩
  rw [hf]
  show (if pos < s.size then 1 + cntF s f (pos + wd s pos) else 0) = _
  rw [if_pos h, cntF_more s f (s.size - (pos + wd s pos)) _ (by omega) (by omega)]
theorem cnt_end (s : ByteArray) (pos : Nat) (h : s.size ≤ pos) : cnt s pos = 0 := by
  unfold cnt; rw [show s.size - pos = 0 by omega]; rfl
theorem cntF_le (s : ByteArray) : ∀ f pos, cntF s f pos ≤ f
  | 0, _ => Nat.le_refl _
  | f + 1, pos => by
    have := cntF_le s f (pos + wd s pos)
    simp only [cntF]
    split <;> omega
theorem cnt_le (s : ByteArray) (pos : Nat) : cnt s pos ≤ s.size - pos := cntF_le s _ _

/-- The place of the first broken byte from a place on; -1: there is none. -/
def brkF (s : ByteArray) : Nat → Nat → Int
  | 0, _ => -1
  | f + 1, pos => if pos < s.size then (if rn s pos < 0 then pos else brkF s f (pos + wd s pos)) else -1
def brk (s : ByteArray) (pos : Nat) : Int := brkF s (s.size - pos) pos
theorem brkF_more (s : ByteArray) : ∀ f g pos, s.size ≤ pos + f → s.size ≤ pos + g → brkF s f pos = brkF s g pos
  | 0, 0, _, _, _ => rfl
  | 0, g + 1, pos, h, _ => by simp only [brkF]; rw [if_neg (by omega)]
  | f + 1, 0, pos, _, h => by simp only [brkF]; rw [if_neg (by omega)]
  | f + 1, g + 1, pos, h, h' => by
    simp only [brkF]
    split
    · rename_i hp
      have := wd_pos s pos hp
      rw [brkF_more s f g (pos + wd s pos) (by omega) (by omega)]
    · rfl
theorem brk_step (s : ByteArray) (pos : Nat) (h : pos < s.size) : brk s pos = if rn s pos < 0 then (pos : Int) else brk s (pos + wd s pos) := by
  have hw := wd_pos s pos h
  unfold brk
  obtain ⟨f, hf⟩ : ∃ f, s.size - pos = f + 1 := ⟨s.size - pos - 1, by omega⟩
  rw [hf]
  show (if pos < s.size then (if rn s pos < 0 then (pos : Int) else brkF s f (pos + wd s pos)) else -1) = _
  rw [if_pos h, brkF_more s f (s.size - (pos + wd s pos)) _ (by omega) (by omega)]
theorem brk_end (s : ByteArray) (pos : Nat) (h : s.size ≤ pos) : brk s pos = -1 := by
  unfold brk; rw [show s.size - pos = 0 by omega]; rfl
theorem brk_bd (s : ByteArray) : ∀ f pos, -1 ≤ brkF s f pos ∧ brkF s f pos < s.size
  | 0, _ => by simp only [brkF]; omega
  | f + 1, pos => by
    have := brk_bd s f (pos + wd s pos)
    simp only [brkF]
    repeat' split
    all_goals omega

/-- The iterator's step, where its block is known by another number, the iterator as the block that it is. -/
theorem next_at {P : Program} {b : Nat} {W : World} (hb : W.heap.size = b) (s : ByteArray) (pos : Nat) (h : pos < s.size) (ty : TypeId) :
    (Instr.next (.pointer (some ⟨b, 0, none⟩)) true ty).run P (W.alloc (.stringIter s pos)) = .ok (.tuple #[.bool true, .int .i64 pos, .int .i32 (Utf8.decode s pos).1]) (W.alloc (.stringIter s (pos + wd s pos))) := by
  subst hb; exact run_next_any W s pos ty h
theorem next_end {P : Program} {b : Nat} {W : World} (hb : W.heap.size = b) (s : ByteArray) (pos : Nat) (h : ¬ pos < s.size) (ty : TypeId) :
    (Instr.next (.pointer (some ⟨b, 0, none⟩)) true ty).run P (W.alloc (.stringIter s pos)) = .ok (.tuple #[.bool false]) (W.alloc (.stringIter s pos)) := by
  subst hb; exact run_next_end W s pos ty h
theorem iterPos_at {b : Nat} {W : World} (hb : W.heap.size = b) (s : ByteArray) (pos : Nat) : (W.alloc (.stringIter s pos)).iterPos b = pos := by
  subst hb; exact World.iterPos_iter W s pos
end Go.Proofs.YtbnhfjhhbgmhfaaDoor
