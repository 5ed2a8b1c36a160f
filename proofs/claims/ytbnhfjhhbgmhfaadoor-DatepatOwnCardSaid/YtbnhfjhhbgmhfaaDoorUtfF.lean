/-
  The walk of the reference's Form at every text and place: the rune whose form begins there, and its width. It leaves the world as it was.
-/
import Derived.Test.YtbnhfjhhbgmhfaaDoorRows
import Derived.Test.YtbnhfjhhbgmhfaaDoorUtfP
import Derived.WalkKit
import Derived.WalkSpells
import Derived.WalkLawsBesides
import Derived.Lib.Hide
import Derived.Handy
import Derived.Laws.BitsLemmas
namespace Go.Proofs.YtbnhfjhhbgmhfaaDoor
open Go.RowKit Go.PlainAid

set_option maxRecDepth 100000 in
set_option maxHeartbeats 1000000 in
theorem rForm_low (s : ByteArray) (i : Nat) (hi : i < s.size) (h0 : bt s i < 194 ∨ 244 < bt s i) (w : World) :
    Calls Tryd.prog 74 #[.string s, .int .i64 i] w fun e w' => e = .returned (.tuple #[.int .i32 (formS s i).1, .int .i64 (formS s i).2]) ∧ w = w' := by
  have hb := get_bt s
  have l0 := bt_nonneg s i; have u0 := bt_le s i
  by_cases ha : bt s i < 128
  · have hf : formS s i = (bt s i, 1) := by unfold formS formI; rw [if_pos ha]
    have H := Lib.hid hf; clear hf
    go_enter Tryd.func74, Tryd.ntmps74
    go_wp2
    go_ret2
    exact ⟨ret2p H.out, rfl⟩
  · have hf : formS s i = (-1, 1) := by unfold formS formI; rw [if_neg ha, if_neg (by omega), if_neg (by omega), if_neg (by omega)]
    have H := Lib.hid hf; clear hf
    by_cases h2 : bt s i < 194
    all_goals
      go_enter Tryd.func74, Tryd.ntmps74
      go_wp2
      go_ret2
      exact ⟨ret2p H.out, rfl⟩

set_option maxRecDepth 100000 in
set_option maxHeartbeats 1000000 in
theorem rForm_two (s : ByteArray) (i : Nat) (hs : s.size ≤ 1000000000000000) (hi : i < s.size) (h0 : 194 ≤ bt s i) (h1 : bt s i ≤ 223) (w : World) :
    Calls Tryd.prog 74 #[.string s, .int .i64 i] w fun e w' => e = .returned (.tuple #[.int .i32 (formS s i).1, .int .i64 (formS s i).2]) ∧ w = w' := by
  have hb := get_bt s
  have hf : formS s i = if 2 ≤ s.size - i ∧ bt s (i + 1) / 64 = 2 then (bt s i % 32 * 64 + bt s (i + 1) % 64, 2) else (-1, 1) := by
    unfold formS formI; rw [if_neg (by omega), if_pos (by omega)]
  have H := Lib.hid hf; clear hf
  have l1 := bt_nonneg s (i + 1); have u1 := bt_le s (i + 1)
  have a1 := and192 s; have a2 := ne128 s
  by_cases h2 : i + 2 ≤ s.size
  · go_enter Tryd.func74, Tryd.ntmps74
    go_wp2
    go_rounds 4
    all_goals go_ret2
    all_goals (refine ⟨ret2p ?_, rfl⟩; rw [H.out])
    all_goals (split <;> first | rfl | (exfalso; omega) | (apply Prod.ext <;> simp only <;> omega))
  · go_enter Tryd.func74, Tryd.ntmps74
    go_wp2
    go_ret2
    exact ⟨ret2p (by rw [H.out, if_neg (by omega)]), rfl⟩

set_option maxRecDepth 100000 in
set_option maxHeartbeats 1000000 in
theorem rForm_three (s : ByteArray) (i : Nat) (hs : s.size ≤ 1000000000000000) (hi : i < s.size) (h0 : 224 ≤ bt s i) (h1 : bt s i ≤ 239) (w : World) :
    Calls Tryd.prog 74 #[.string s, .int .i64 i] w fun e w' => e = .returned (.tuple #[.int .i32 (formS s i).1, .int .i64 (formS s i).2]) ∧ w = w' := by
  have hb := get_bt s
  have hf : formS s i = if 3 ≤ s.size - i ∧ bt s (i + 1) / 64 = 2 ∧ bt s (i + 2) / 64 = 2 ∧ 2048 ≤ (bt s i % 16 * 64 + bt s (i + 1) % 64) * 64 + bt s (i + 2) % 64 ∧ ((bt s i % 16 * 64 + bt s (i + 1) % 64) * 64 + bt s (i + 2) % 64 < 55296 ∨ 57343 < (bt s i % 16 * 64 + bt s (i + 1) % 64) * 64 + bt s (i + 2) % 64)
      then ((bt s i % 16 * 64 + bt s (i + 1) % 64) * 64 + bt s (i + 2) % 64, 3) else (-1, 1) := by
    unfold formS formI; rw [if_neg (by omega), if_neg (by omega), if_pos (by omega)]
  have H := Lib.hid hf; clear hf
  have l1 := bt_nonneg s (i + 1); have u1 := bt_le s (i + 1)
  have l2 := bt_nonneg s (i + 2); have u2 := bt_le s (i + 2)
  have a1 := and192 s; have a2 := ne128 s
  by_cases h2 : i + 3 ≤ s.size
  · go_enter Tryd.func74, Tryd.ntmps74
    go_wp2
    go_rounds 4
    all_goals go_ret2
    all_goals (refine ⟨ret2p ?_, rfl⟩; rw [H.out])
    all_goals (split <;> first | rfl | (exfalso; omega) | (apply Prod.ext <;> simp only <;> omega))
  · go_enter Tryd.func74, Tryd.ntmps74
    go_wp2
    go_ret2
    exact ⟨ret2p (by rw [H.out, if_neg (by omega)]), rfl⟩

set_option maxRecDepth 100000 in
set_option maxHeartbeats 1000000 in
theorem rForm_four (s : ByteArray) (i : Nat) (hs : s.size ≤ 1000000000000000) (hi : i < s.size) (h0 : 240 ≤ bt s i) (h1 : bt s i ≤ 244) (w : World) :
    Calls Tryd.prog 74 #[.string s, .int .i64 i] w fun e w' => e = .returned (.tuple #[.int .i32 (formS s i).1, .int .i64 (formS s i).2]) ∧ w = w' := by
  have hb := get_bt s
  have hf : formS s i = if 4 ≤ s.size - i ∧ bt s (i + 1) / 64 = 2 ∧ bt s (i + 2) / 64 = 2 ∧ bt s (i + 3) / 64 = 2 ∧ 65536 ≤ ((bt s i % 8 * 64 + bt s (i + 1) % 64) * 64 + bt s (i + 2) % 64) * 64 + bt s (i + 3) % 64 ∧ ((bt s i % 8 * 64 + bt s (i + 1) % 64) * 64 + bt s (i + 2) % 64) * 64 + bt s (i + 3) % 64 ≤ 1114111
      then (((bt s i % 8 * 64 + bt s (i + 1) % 64) * 64 + bt s (i + 2) % 64) * 64 + bt s (i + 3) % 64, 4) else (-1, 1) := by
    unfold formS formI; rw [if_neg (by omega), if_neg (by omega), if_neg (by omega), if_pos (by omega)]
  have H := Lib.hid hf; clear hf
  have l1 := bt_nonneg s (i + 1); have u1 := bt_le s (i + 1)
  have l2 := bt_nonneg s (i + 2); have u2 := bt_le s (i + 2)
  have l3 := bt_nonneg s (i + 3); have u3 := bt_le s (i + 3)
  have a1 := and192 s; have a2 := ne128 s
  by_cases h2 : i + 4 ≤ s.size
  · go_enter Tryd.func74, Tryd.ntmps74
    go_wp2
    go_rounds 4
    all_goals go_ret2
    all_goals (refine ⟨ret2p ?_, rfl⟩; rw [H.out])
    all_goals (split <;> first | rfl | (exfalso; omega) | (apply Prod.ext <;> simp only <;> omega))
  · go_enter Tryd.func74, Tryd.ntmps74
    go_wp2
    go_ret2
    exact ⟨ret2p (by rw [H.out, if_neg (by omega)]), rfl⟩

theorem rForm_in (s : ByteArray) (i : Nat) (hs : s.size ≤ 1000000000000000) (hi : i < s.size) (w : World) :
    Calls Tryd.prog 74 #[.string s, .int .i64 i] w fun e w' => e = .returned (.tuple #[.int .i32 (formS s i).1, .int .i64 (formS s i).2]) ∧ w = w' := by
  by_cases h : bt s i < 194 ∨ 244 < bt s i
  · exact rForm_low s i hi h w
  by_cases h2 : bt s i ≤ 223
  · exact rForm_two s i hs hi (by omega) h2 w
  by_cases h3 : bt s i ≤ 239
  · exact rForm_three s i hs hi (by omega) h3 w
  · exact rForm_four s i hs hi (by omega) (by omega) w

set_option maxRecDepth 100000 in
set_option maxHeartbeats 1000000 in
/-- The reference's Form at every text and every place. -/
theorem rForm_any (s : ByteArray) (i : Int) (hs : s.size ≤ 1000000000000000) (w : World) :
    Calls Tryd.prog 74 #[.string s, .int .i64 i] w fun e w' => e = .returned (.tuple #[.int .i32 (formZ s i).1, .int .i64 (formZ s i).2]) ∧ w = w' := by
  by_cases h : i < 0 ∨ (s.size : Int) ≤ i
  · have hf : formZ s i = (-1, 0) := by unfold formZ; rw [if_pos h]
    have H := Lib.hid hf; clear hf
    by_cases h2 : i < 0
    all_goals
      go_enter Tryd.func74, Tryd.ntmps74
      go_wp2
      go_ret2
      exact ⟨ret2p H.out, rfl⟩
  · have hf : formZ s i = formS s i.toNat := by unfold formZ; rw [if_neg h]
    obtain ⟨k, rfl⟩ := Int.eq_ofNat_of_zero_le (show 0 ≤ i by omega)
    rw [hf]
    exact rForm_in s k hs (by omega) w
end Go.Proofs.YtbnhfjhhbgmhfaaDoor
