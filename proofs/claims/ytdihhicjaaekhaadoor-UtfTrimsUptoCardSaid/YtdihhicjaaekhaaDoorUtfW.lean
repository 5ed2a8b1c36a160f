/-
  The walk of 'wakes': in every world that holds Go's tables of utf8 it returns true.
-/
import Derived.Test.YtdihhicjaaekhaaDoorRows
import Derived.Test.YtdihhicjaaekhaaDoorUtfA
import Derived.Test.YtdihhicjaaekhaaDoorUtfC
import Derived.Test.YtdihhicjaaekhaaDoorUtfS
import Derived.Test.YtdihhicjaaekhaaDoorUtfT
import Derived.Test.YtdihhicjaaekhaaDoorUtfM
import Derived.Deep.QuietTactic
namespace Go.Proofs.YtdihhicjaaekhaaDoor
open Go.RowKit Go.PlainAid

theorem wake_at : formZ ⟨#[195, 169]⟩ 0 = (233, 2) := by decide +kernel
theorem wake_count : cnt ⟨#[97, 255]⟩ 0 = 2 := by decide +kernel
theorem wake_name : nameB ⟨#[97, 45, 49]⟩ = true := by decide +kernel
theorem wake_high : high ⟨#[97, 98]⟩ = ⟨#[65, 66]⟩ := by decide +kernel
theorem wake_trim : trimB ⟨#[32, 97, 32]⟩ = ⟨#[97]⟩ := by decide +kernel

set_option maxHeartbeats 1000000 in
theorem wakes_any (w : World) (hT : Tabs w) : Calls Tryd.prog 11 #[] w fun e w' => e = .returned (.bool true) ∧ Below w.heap.size w w' := by
  have cA := at_any ⟨#[195, 169]⟩ 0 w hT
  rw [wake_at] at cA
  have cC := fun w => count_any ⟨#[97, 255]⟩ w (by decide)
  rw [wake_count] at cC
  have cN := fun w => name_any ⟨#[97, 45, 49]⟩ w (by decide)
  rw [wake_name] at cN
  have cH := fun w => upper_any ⟨#[97, 98]⟩ w (by decide)
  rw [wake_high] at cH
  have cM := fun w => trim_any ⟨#[32, 97, 32]⟩ w (by decide)
  rw [wake_trim] at cM
  have HC := Lib.hid cC; have HN := Lib.hid cN; have HH := Lib.hid cH; have HM := Lib.hid cM
  clear cC cN cH cM
  go_enter Tryd.func11, Tryd.ntmps11
  go_wp2_with (first | (go_at_call 12; refine cA.mono ?_; rintro e w1 ⟨rfl, hB1⟩) | (go_at_call 14; refine (HC.out _).mono ?_; rintro e w2 ⟨rfl, hB2⟩) | (go_at_call 15; refine (HN.out _).mono ?_; rintro e w3 ⟨rfl, rfl⟩) | (go_at_call 23; refine (HH.out _).mono ?_; rintro e w4 ⟨rfl, hB4⟩) | (go_at_call 40; refine (HM.out _).mono ?_; rintro e w5 ⟨rfl, hB5⟩))
  go_ret
  exact ⟨rfl, ((hB1.trans (hB2.mono hB1.size)).trans (hB4.mono (Nat.le_trans hB1.size hB2.size))).trans (hB5.mono (Nat.le_trans (Nat.le_trans hB1.size hB2.size) hB4.size))⟩
end Go.Proofs.YtdihhicjaaekhaaDoor
