/-
  The walk of utf.Check (as in UtfC), and of the reference's Right.
-/
import Derived.Test.YtbnhfjhhbgmhfaaDoorRows
import Derived.Test.YtbnhfjhhbgmhfaaDoorUtfQ
import Derived.Test.YtbnhfjhhbgmhfaaDoorUtfF
import Derived.WalkKit
import Derived.WalkSpells
import Derived.WalkLawsBesides
import Derived.Lib.Hide
import Derived.Handy
import Derived.Laws.RangeString
import Derived.Laws.RangeAny
namespace Go.Proofs.YtbnhfjhhbgmhfaaDoor
open Go.RowKit Go.PlainAid

/-- What Check hands back of the first broken byte's place. -/
def spotV (k : Int) : Value := if 0 ≤ k then .agg #[.int .i64 6, .int .i64 k] else .agg #[.int .i64 0, .int .i64 0]
def ChkI (s : ByteArray) (B : Bool) (L pos : Nat) : Prop :=
  (B = false → brk s 0 = brk s pos) ∧ (B = true → L < s.size ∧ pos = L + wd s L ∧ brk s 0 = brk s L ∧ (Utf8.decode s L).1 = 65533)

theorem chk_next {s : ByteArray} {L pos : Nat} (hp : pos < s.size) (h : ChkI s false L pos) : ChkI s (((Utf8.decode s pos).1 : Int) == 65533) pos (pos + wd s pos) := by
  have h0 := h.1 rfl
  refine ⟨fun hb => ?_, fun hb => ⟨hp, rfl, h0, ?_⟩⟩
  · rw [h0, brk_step s pos hp, if_neg]
    intro hr
    have := (rn_broken s pos).1 hr
    simp [this.1] at hb
  · have := beq_iff_eq.1 hb
    omega
theorem chk_past {s : ByteArray} {L pos : Nat} (h : ChkI s true L pos) (h1 : pos - L ≠ 1) : ChkI s false L pos := by
  obtain ⟨hL, rfl, h0, _⟩ := h.2 rfl
  refine ⟨fun _ => ?_, fun hb => by cases hb⟩
  rw [h0, brk_step s L hL, if_neg]
  intro hr
  have := (rn_broken s L).1 hr
  omega
theorem chk_hit {s : ByteArray} {L pos : Nat} (h : ChkI s true L pos) (h1 : pos - L = 1) : spotV (brk s 0) = .agg #[.int .i64 6, .int .i64 L] := by
  obtain ⟨hL, rfl, h0, h2⟩ := h.2 rfl
  have : rn s L < 0 := (rn_broken s L).2 ⟨h2, by omega⟩
  rw [h0, brk_step s L hL, if_pos this]
  unfold spotV
  rw [if_pos (by omega)]
theorem chk_end {s : ByteArray} {L pos : Nat} (hp : ¬ pos < s.size) (h : ChkI s false L pos) : spotV (brk s 0) = .agg #[.int .i64 0, .int .i64 0] := by
  rw [h.1 rfl, brk_end s pos (by omega)]
  rfl
theorem ret_val {a b : Value} (h : b = a) : Ending.returned a = .returned b := by rw [h]

set_option maxHeartbeats 1000000 in
theorem check_any (s : ByteArray) (w : World) (hs : s.size ≤ 1000000000000000) :
    Calls Tryd.prog 29 #[.string s] w fun e w' => e = .returned (spotV (brk s 0)) ∧ Below w.heap.size w w' := by
  go_enter Tryd.func29, Tryd.ntmps29
  go_wp2
  have hsz : (w.alloc (.cells #[.int .i64 0, .int .i64 0] 26)).heap.size = w.heap.size + 1 := World.size_alloc _ _
  go_loopw [3, 4] (fun l b w' => ∃ (L pos : Nat) (B : Bool), w' = (w.alloc (.cells #[.int .i64 0, .int .i64 0] 26)).alloc (.stringIter s pos) ∧ l = .int .i64 L ∧ b = .bool B ∧ L ≤ pos ∧ pos ≤ s.size ∧ ChkI s B L pos) (fun _ _ w' => s.size - w'.iterPos (w.heap.size + 1))
  case atStart => exact ⟨0, 0, false, rfl, rfl, rfl, Nat.le_refl _, Nat.zero_le _, fun _ => rfl, fun h => by cases h⟩
  case round =>
    obtain ⟨L, pos, B, rfl, rfl, rfl, hL, hle, hI⟩ := hrel
    by_cases hp : pos < s.size
    · have hnx := next_at (P := Tryd.prog) hsz s pos hp
      have hwd := wd_pos s pos hp
      have hin := wd_in s pos hp
      have hst := Lib.hid (brk_step s pos hp)
      have HI := Lib.hid hI; clear hI
      have hm : s.size - (((w.alloc (.cells #[.int .i64 0, .int .i64 0] 26)).alloc (.stringIter s (pos + wd s pos))).iterPos (w.heap.size + 1)) < s.size - (((w.alloc (.cells #[.int .i64 0, .int .i64 0] 26)).alloc (.stringIter s pos)).iterPos (w.heap.size + 1)) := by
        rw [iterPos_at hsz, iterPos_at hsz]; omega
      have HM := Lib.hid hm; clear hm
      cases B with
      | false =>
        go_wp2
        go_roundw
        case rel => exact ⟨pos, pos + wd s pos, _, rfl, rfl, rfl, by omega, hin, chk_next hp HI.out⟩
        case measure => exact HM.out
      | true =>
        by_cases h1 : pos - L = 1
        · have h1' : ((pos : Int) - (L : Int) == 1) = true := by simp; omega
          go_wp2
          go_returns
          exact ⟨ret_val (chk_hit HI.out h1), ((Below.refl _ w).alloc (Nat.le_refl _) _).alloc (by simp) _⟩
        · have h1' : ((pos : Int) - (L : Int) == 1) = false := by simp; omega
          go_wp2
          go_roundw
          case rel => exact ⟨pos, pos + wd s pos, _, rfl, rfl, rfl, by omega, hin, chk_next hp (chk_past HI.out h1)⟩
          case measure => exact HM.out
    · have hnx := next_end (P := Tryd.prog) hsz s pos hp
      have HI := Lib.hid hI; clear hI
      cases B with
      | false =>
        go_wp2
        go_returns
        exact ⟨ret_val (chk_end hp HI.out), ((Below.refl _ w).alloc (Nat.le_refl _) _).alloc (by simp) _⟩
      | true =>
        by_cases h1 : s.size - L = 1
        · have h1' : ((s.size : Int) - (L : Int) == 1) = true := by simp; omega
          go_wp2
          go_returns
          exact ⟨ret_val (chk_hit HI.out (by omega)), ((Below.refl _ w).alloc (Nat.le_refl _) _).alloc (by simp) _⟩
        · have h1' : ((s.size : Int) - (L : Int) == 1) = false := by simp; omega
          go_wp2
          go_returns
          exact ⟨ret_val (chk_end hp (chk_past HI.out (by omega))), ((Below.refl _ w).alloc (Nat.le_refl _) _).alloc (by simp) _⟩
end Go.Proofs.YtbnhfjhhbgmhfaaDoor
