/-
  Patterns of dates: the reference's row: how often a byte stands.
-/
import Derived.Test.YtbnhfjhhbgmhfaaDoorDpQ
import Derived.Deep.QuietTactic
import Derived.Deep.LoopGhost
import Derived.Deep.Cut
import Derived.BigQuiet
namespace Go.Proofs.YtbnhfjhhbgmhfaaDoor
open Go.RowKit Go.PlainAid

theorem bdrN {B : Nat} {a w : World} (h : Below B a w) (n : Nat) : Below B a (w.drewN n) := ⟨h.os, h.tape, h.output, h.size, h.block⟩

set_option maxRecDepth 100000 in
set_option maxHeartbeats 2000000 in
theorem row_any (s : ByteArray) (i : Nat) (w : World) (hs : s.size ≤ 1000000) (h : i < s.size) :
    Calls Tryd.prog 37 #[.string s, .int .i64 i] w fun e w' => e = .returned (.int .i64 ((runTo s (bt s i) i - i : Nat) : Int)) ∧ Below w.heap.size w w' := by
  have hbi : ((s[i]'h).toNat : Int) = bt s i := by unfold bt; rw [dif_pos h]
  have h0 := runTo_go h (rfl : bt s i = bt s i)
  have H0 := Lib.hid h0
  clear h0
  go_enter Tryd.func37, Tryd.ntmps37
  go_wp2_with fail
  go_loopg [5] (s.size - (i + 1)) (fun g s5 wr => ∃ m : Nat, 1 ≤ m ∧ i + m + g = s.size ∧ s5 = .int .i64 (m : Int) ∧ runTo s (bt s i) i = runTo s (bt s i) (i + m) ∧ Below w.heap.size w wr)
  case atStart => exact ⟨1, Nat.le_refl _, by omega, rfl, H0.out, Below.refl _ _⟩
  case round =>
    obtain ⟨m, hm, hg, rfl, hr, hB⟩ := hrel
    have HR := Lib.hid hr
    clear hr
    have i1 : IntKind.i64.wrap ((i : Int) + m) = (i : Int) + m := IntWalk.i64_in _ (by omega)
    have h00 : (0 : Int) ≤ (i : Int) + m := by omega
    have h0i : (0 : Int) ≤ (i : Int) := by omega
    have ht : ((i : Int) + m).toNat = i + m := by omega
    by_cases hl : i + m < s.size
    · have hbm : ((s[i + m]'hl).toNat : Int) = bt s (i + m) := by unfold bt; rw [dif_pos hl]
      have hlI : (i : Int) + m < s.size := by omega
      by_cases he : bt s (i + m) = bt s i
      · have hnew := runTo_go hl he
        have HN := Lib.hid hnew
        have hbe : (bt s (i + m) == bt s i) = true := by simpa using he
        clear hnew he
        go_upto_region 2 with fail
        go_quiet (fail)
        have hBn := bdrN hB nq
        go_wp2_with fail
        go_roundg (gk - 1)
        case rel => exact ⟨m + 1, by omega, by omega, by push_cast; rfl, by rw [HR.out, HN.out]; rfl, hBn⟩
        case measure => omega
      · have hnew := runTo_stop (s := s) (b := bt s i) (i := i + m) (fun h => he h.2)
        have HN := Lib.hid hnew
        have hbe : (bt s (i + m) == bt s i) = false := by simpa using he
        clear hnew he
        go_upto_region 2 with fail
        go_quiet (fail)
        have hBn := bdrN hB nq
        go_wp2_with fail
        go_ret
        exact ⟨ret_int (by rw [HR.out, HN.out]; omega), hBn⟩
    · have hnew := runTo_stop (s := s) (b := bt s i) (i := i + m) (fun h => hl h.1)
      have HN := Lib.hid hnew
      have hlI : decide ((i : Int) + m < s.size) = false := decide_eq_false (by omega)
      have hlN : decide (i + m < s.size) = false := decide_eq_false (by omega)
      have hge : (s.size : Int) ≤ (i : Int) + m := by omega
      clear hnew hl
      go_upto_region 2 with fail
      go_quiet (fail)
      have hBn := bdrN hB nq
      go_wp2_with fail
      go_ret
      exact ⟨ret_int (by rw [HR.out, HN.out]; omega), hBn⟩
end Go.Proofs.YtbnhfjhhbgmhfaaDoor
