/-
  The walk of the law UtfWalks: a text gone through piece by piece ends at its end, with as many pieces as are counted.
-/
import Derived.Test.YtdihhicjaaekhaaDoorRows
import Derived.Test.YtdihhicjaaekhaaDoorUtfW
namespace Go.Proofs.YtdihhicjaaekhaaDoor
open Go.RowKit Go.PlainAid

theorem at_in (s : ByteArray) (k : Nat) (hk : k < s.size) (w : World) (hT : Tabs w) :
    Calls Tryd.prog 12 #[.string s, .int .i64 k] w fun e w' => e = .returned (.tuple #[.int .i32 (rn s k), .int .i64 (wd s k)]) ∧ Below w.heap.size w w' := by
  have c := at_any s k w hT
  have : formZ s k = formS s k := by unfold formZ; rw [if_neg (by omega)]; rfl
  rw [this, formS_wd] at c
  exact c
theorem form_in (s : ByteArray) (k : Nat) (hk : k < s.size) (w : World) (hs : s.size ≤ 1000000000000000) :
    Calls Tryd.prog 13 #[.string s, .int .i64 k] w fun e w' => e = .returned (.tuple #[.int .i32 (rn s k), .int .i64 (wd s k)]) ∧ w = w' := by
  have c := rForm_in s k hs hk w
  rw [formS_wd] at c
  exact c

set_option maxHeartbeats 1000000 in
theorem utfWalks_walk (s : ByteArray) (w : World) (hr : s.size ≤ 140737488351232) (hT : Tabs w) :
    Calls Tryd.prog 3 #[.string s] w fun e w' => e = .returned (.bool true) ∧ Below w.heap.size w w' := by
  go_enter Tryd.func3, Tryd.ntmps3
  go_wp2_with (go_at_call 11; refine (wakes_any _ hT).mono ?_; rintro e w1 ⟨rfl, hB1⟩)
  obtain ⟨t, ht⟩ : ∃ t, s.extract 0 (min (↑s.size) 8192 : Int).toNat = t := ⟨_, rfl⟩
  rw [ht]
  have hts : t.size ≤ 140737488351232 := by rw [← ht]; simp; omega
  clear ht
  go_loopw [4, 3] (fun i k wr => ∃ (pos acc : Nat), i = .int .i64 pos ∧ k = .int .i64 acc ∧ acc + cnt t pos = cnt t 0 ∧ acc ≤ pos ∧ pos ≤ t.size ∧ Below w.heap.size w wr) (fun i _ _ => t.size - (intOf i).toNat)
  case atStart => exact ⟨0, 0, rfl, rfl, by simp, Nat.le_refl _, Nat.zero_le _, hB1⟩
  case round =>
    obtain ⟨pos, acc, rfl, rfl, hc, ha, hle, hB⟩ := hrel
    by_cases hp : pos < t.size
    · have hwd := wd_pos t pos hp
      have hin := wd_in t pos hp
      have hst := Lib.hid (cnt_step t pos hp)
      go_wp2_with (first | (go_at_call 12; refine (at_in t pos hp _ (hT.later hB)).mono ?_; rintro e w2 ⟨rfl, hB2⟩) | (go_at_call 13; refine (form_in t pos hp _ (by omega)).mono ?_; rintro e w3 ⟨rfl, rfl⟩))
      go_roundw
      case rel => exact ⟨pos + wd t pos, acc + 1, by go_num, by go_num, by have := hst.out; omega, by omega, hin, hB.trans (hB2.mono hB.size)⟩
      case measure => simp [intOf]; omega
    · have hst := Lib.hid (cnt_end t pos (by omega))
      obtain ⟨c, hcc⟩ : ∃ c, cnt t 0 = c := ⟨_, rfl⟩
      have cC := fun w => count_any t w (by omega)
      rw [hcc] at hc
      have hac : acc = c := by have := hst.out; omega
      rw [hcc, ← hac] at cC
      clear hac hcc hc
      go_wp2_with (go_at_call 14; refine (cC _).mono ?_; rintro e w2 ⟨rfl, hB2⟩)
      go_ret
      exact ⟨rfl, hB.trans (hB2.mono hB.size)⟩
end Go.Proofs.YtdihhicjaaekhaaDoor
