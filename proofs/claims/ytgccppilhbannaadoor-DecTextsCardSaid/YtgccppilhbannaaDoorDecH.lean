/-
  The walk of the reference's digits: how many digits stand at a place.
-/
import Derived.Test.YtgccppilhbannaaDoorRows
import Derived.Test.YtgccppilhbannaaDoorDecN
import Derived.WalkKit
import Derived.WalkSpells
import Derived.Lib.Hide
import Derived.Handy
namespace Go.Proofs.YtgccppilhbannaaDoor
open Go.RowKit Go.PlainAid

set_option maxRecDepth 100000 in
set_option maxHeartbeats 1000000 in
theorem rDigits_any (s : ByteArray) (p : Nat) (w : World) (hs : s.size ≤ 1000000000000000) (hp : p ≤ 1000000000000000) :
    Calls Tryd.prog 50 #[.string s, .int .i64 p] w fun e w' => e = .returned (.int .i64 (ndig s p)) ∧ w = w' := by
  have hb := get_bt s
  go_enter Tryd.func50, Tryd.ntmps50
  go_wp2_with fail
  go_loop [5] (fun n => ∃ k : Nat, n = .int .i64 k ∧ k ≤ s.size ∧ ndig s p = k + ndig s (p + k)) (fun n => s.size - (intOf n).toNat)
  case atStart => exact ⟨0, rfl, Nat.zero_le _, by simp⟩
  case round =>
    obtain ⟨k, rfl, hk, hn⟩ := hrel
    have HN := Lib.hid hn; clear hn
    by_cases h1 : p + k < s.size
    · by_cases h2 : 48 ≤ bt s (p + k) ∧ bt s (p + k) ≤ 57
      · obtain ⟨h3, h4⟩ := h2
        have hst := nd_step (digAt_iff.2 ⟨h1, h3, h4⟩)
        have HS := Lib.hid hst; clear hst
        go_wp2
        go_round
        case rel => exact ⟨k + 1, by go_num, by omega, by rw [HN.out, HS.out, Nat.add_assoc p k 1]; omega⟩
        case measure => simp [intOf]; omega
      · have hst := nd_stop (s := s) (p := p + k) (by rw [Bool.eq_false_iff]; exact fun g => h2 ⟨(digAt_iff.1 g).2.1, (digAt_iff.1 g).2.2⟩)
        have HE := Lib.hid (show ndig s p = k by rw [HN.out, hst]; rfl)
        clear hst
        by_cases h3 : 48 ≤ bt s (p + k)
        all_goals
          go_wp2
          go_ret
          exact ⟨ret_int (by rw [HE.out]), rfl⟩
    · have hst := nd_stop (s := s) (p := p + k) (by rw [Bool.eq_false_iff]; exact fun g => h1 (digAt_iff.1 g).1)
      have HE := Lib.hid (show ndig s p = k by rw [HN.out, hst]; rfl)
      clear hst
      go_wp2
      go_ret
      exact ⟨ret_int (by rw [HE.out]), rfl⟩
end Go.Proofs.YtgccppilhbannaaDoor
