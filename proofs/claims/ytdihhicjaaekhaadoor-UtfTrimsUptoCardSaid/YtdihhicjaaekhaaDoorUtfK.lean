/-
  The walks of the layer utf over single bytes and runes: letter, digit, NameStart, NameByte, Char, and the reference's words for them. They leave the world as it was.
-/
import Derived.Test.YtdihhicjaaekhaaDoorRows
import Derived.Test.YtdihhicjaaekhaaDoorUtfP
import Derived.WalkKit
import Derived.WalkSpells
import Derived.WalkLawsBesides
import Derived.Lib.Hide
namespace Go.Proofs.YtdihhicjaaekhaaDoor
open Go.RowKit

set_option maxHeartbeats 400000 in
theorem digit_any (b : Int) (h0 : 0 ≤ b) (h1 : b < 256) (w : World) :
    Calls Tryd.prog 47 #[.int .u8 b] w fun e w' => e = .returned (.bool (bDigit b)) ∧ w = w' := by
  go_enter Tryd.func47, Tryd.ntmps47
  go_wp2
  all_goals (go_ret; refine ⟨ret_bool ?_, rfl⟩; rw [Bool.eq_iff_iff]; simp [bDigit]; try omega)

set_option maxHeartbeats 400000 in
theorem letter_any (b : Int) (h0 : 0 ≤ b) (h1 : b < 256) (w : World) :
    Calls Tryd.prog 46 #[.int .u8 b] w fun e w' => e = .returned (.bool (bLetter b)) ∧ w = w' := by
  have H := Lib.hid (or32 b h0 h1)
  go_enter Tryd.func46, Tryd.ntmps46
  go_wp2
  all_goals (go_ret; refine ⟨ret_bool ?_, rfl⟩; rw [← H.out, Bool.eq_iff_iff]; simp; try omega)

set_option maxHeartbeats 400000 in
theorem rLetter_any (b : Int) (w : World) :
    Calls Tryd.prog 35 #[.int .u8 b] w fun e w' => e = .returned (.bool (bLetter b)) ∧ w = w' := by
  go_enter Tryd.func35, Tryd.ntmps35
  go_wp2
  all_goals (go_ret; refine ⟨ret_bool ?_, rfl⟩; rw [Bool.eq_iff_iff]; simp [bLetter]; try omega)

set_option maxHeartbeats 400000 in
theorem rDigit_any (b : Int) (w : World) :
    Calls Tryd.prog 36 #[.int .u8 b] w fun e w' => e = .returned (.bool (bDigit b)) ∧ w = w' := by
  go_enter Tryd.func36, Tryd.ntmps36
  go_wp2
  all_goals (go_ret; refine ⟨ret_bool ?_, rfl⟩; rw [Bool.eq_iff_iff]; simp [bDigit]; try omega)

set_option maxHeartbeats 400000 in
theorem rBlank_any (b : Int) (w : World) :
    Calls Tryd.prog 34 #[.int .u8 b] w fun e w' => e = .returned (.bool (bBlank b)) ∧ w = w' := by
  go_enter Tryd.func34, Tryd.ntmps34
  go_wp2
  all_goals (go_ret; refine ⟨ret_bool ?_, rfl⟩; rw [Bool.eq_iff_iff]; simp_all [bBlank]; try omega)

set_option maxHeartbeats 400000 in
theorem char_any (r : Int) (w : World) :
    Calls Tryd.prog 27 #[.int .i32 r] w fun e w' => e = .returned (.bool (rChar r)) ∧ w = w' := by
  go_enter Tryd.func27, Tryd.ntmps27
  go_wp2
  all_goals (go_ret; refine ⟨ret_bool ?_, rfl⟩; rw [Bool.eq_iff_iff]; simp_all [rChar]; try omega)

set_option maxHeartbeats 400000 in
theorem rChar_any (r : Int) (w : World) :
    Calls Tryd.prog 28 #[.int .i32 r] w fun e w' => e = .returned (.bool (rChar r)) ∧ w = w' := by
  go_enter Tryd.func28, Tryd.ntmps28
  go_wp2
  all_goals (go_ret; refine ⟨ret_bool ?_, rfl⟩; rw [Bool.eq_iff_iff]; simp_all [rChar]; try omega)

set_option maxHeartbeats 400000 in
theorem nameStart_any (b : Int) (h0 : 0 ≤ b) (h1 : b < 256) (w : World) :
    Calls Tryd.prog 29 #[.int .u8 b] w fun e w' => e = .returned (.bool (bStart b)) ∧ w = w' := by
  have H := Lib.hid (bStart_eq b)
  go_enter Tryd.func29, Tryd.ntmps29
  go_wp2_with (go_at_call 46; refine (letter_any _ (by omega) (by omega) _).mono ?_; rintro e w' ⟨rfl, rfl⟩)
  all_goals (go_ret; refine ⟨ret_bool ?_, rfl⟩; rw [H.out]; simp_all)

set_option maxHeartbeats 400000 in
theorem rStart_any (b : Int) (w : World) :
    Calls Tryd.prog 30 #[.int .u8 b] w fun e w' => e = .returned (.bool (bStart b)) ∧ w = w' := by
  have H := Lib.hid (bStart_eq b)
  go_enter Tryd.func30, Tryd.ntmps30
  go_wp2_with (go_at_call 35; refine (rLetter_any _ _).mono ?_; rintro e w' ⟨rfl, rfl⟩)
  all_goals (go_ret; refine ⟨ret_bool ?_, rfl⟩; rw [H.out]; simp_all)

set_option maxHeartbeats 400000 in
theorem nameByte_any (b : Int) (h0 : 0 ≤ b) (h1 : b < 256) (w : World) :
    Calls Tryd.prog 31 #[.int .u8 b] w fun e w' => e = .returned (.bool (bByte b)) ∧ w = w' := by
  have H := Lib.hid (bByte_eq b)
  go_enter Tryd.func31, Tryd.ntmps31
  go_wp2_with (first | (go_at_call 29; refine (nameStart_any _ (by omega) (by omega) _).mono ?_; rintro e w' ⟨rfl, rfl⟩) | (go_at_call 47; refine (digit_any _ (by omega) (by omega) _).mono ?_; rintro e w' ⟨rfl, rfl⟩))
  all_goals (go_ret; refine ⟨ret_bool ?_, rfl⟩; rw [H.out]; simp_all)

set_option maxHeartbeats 400000 in
theorem rByte_any (b : Int) (w : World) :
    Calls Tryd.prog 32 #[.int .u8 b] w fun e w' => e = .returned (.bool (bByte b)) ∧ w = w' := by
  have H := Lib.hid (bByte_eq b)
  go_enter Tryd.func32, Tryd.ntmps32
  go_wp2_with (first | (go_at_call 30; refine (rStart_any _ _).mono ?_; rintro e w' ⟨rfl, rfl⟩) | (go_at_call 36; refine (rDigit_any _ _).mono ?_; rintro e w' ⟨rfl, rfl⟩))
  all_goals (go_ret; refine ⟨ret_bool ?_, rfl⟩; rw [H.out]; simp_all)

end Go.Proofs.YtdihhicjaaekhaaDoor
