/-
  Rules for numbers, the document's answer: a number's digits, a number as a word.
-/
import Derived.Test.YtgbemhehbhlgpaaGreatDoorPlRa
namespace Go.Proofs.YtgbemhehbhlgpaaGreatDoor
open Go.RowKit Go.PlainAid

set_option maxRecDepth 100000 in
set_option maxHeartbeats 2000000 in
theorem rDigits_any (n : Nat) (hn : n < 10 ^ 18) (w : World) : Calls Tryz.prog 87 #[.int .i64 (n : Int)] w fun e w' => ∃ v, e = .returned v ∧ IntRow w.heap.size w' v (lowD n) ∧ Below w.heap.size w w' := by
  have hA := (Below.refl w.heap.size w).alloc (Nat.le_refl _) (.cells #[.int .i64 ((n : Int) % 10)] 3)
  have hlit : IntRow w.heap.size (w.alloc (.cells #[.int .i64 ((n : Int) % 10)] 3)) (.slice (some ⟨w.heap.size, 0, none⟩) 1 1) [n % 10] := by
    rw [show (n : Int) % 10 = ((n % 10 : Nat) : Int) by omega]
    exact IntRow.lit w (n % 10)
  have hll := lowD_len hn (by decide)
  have hn0 : (0 : Int) ≤ n := by omega
  have hnb : n < 1000000000000000000 := hn
  have HLL := Lib.hid hll
  have HLIT := Lib.hid hlit
  clear hll hn hlit
  go_enter Tryz.func87, Tryz.ntmps87
  go_wp2_with fail
  go_loopg [0, 3] (n + 1) (fun g s0 s3 wr => ∃ (m : Nat) (pre : List Nat), s0 = .int .i64 (m : Int) ∧ m ≤ n ∧ m < g ∧ lowD n = pre ++ lowD m ∧ IntRow w.heap.size wr s3 (pre ++ [m % 10]) ∧ Below w.heap.size w wr)
  case atStart => exact ⟨n, [], rfl, Nat.le_refl _, Nat.lt_succ_self _, rfl, HLIT.out, hA⟩
  case round =>
    obtain ⟨m, pre, rfl, hmn, hg, hl, hrow, hB⟩ := hrel
    have HL := Lib.hid hl
    have HG := Lib.hid hg
    by_cases h10 : 10 ≤ m
    · have i10 : (10 : Int) ≤ m := by omega
      have i0 : (0 : Int) ≤ m := by omega
      have f1 : IntKind.i64.wrap ((m : Int) / 10) = (m : Int) / 10 := IntWalk.i64_in _ (by omega)
      have f2 : (0 : Int) ≤ (m : Int) / 10 := by omega
      have f3 : IntKind.i64.wrap ((m : Int) / 10 % 10) = (m : Int) / 10 % 10 := IntWalk.i64_in _ (by omega)
      have hd : ((m : Int) / 10 % 10) = ((m / 10 % 10 : Nat) : Int) := by omega
      have hlen : (pre ++ [m % 10]).length ≤ 1000000000000 := by
        have h1 := HLL.out
        rw [hl, List.length_append, lowD_step m h10] at h1
        simp at h1 ⊢
        omega
      have HD := Lib.hid hd
      have H10 := Lib.hid h10
      have HM := Lib.hid hmn
      clear hl hg hd h10 hmn hn0 hnb hA
      go_wp2_with (at_builtin; go_must (refine wpList_snoc_int rfl _ _ rfl _ _ _ (m / 10 % 10) rfl hrow rfl HD.out hlen hB (Nat.le_refl _) (Nat.le_refl _) hB.size ?_); intro v' w2 hrow2 hB2)
      go_roundg m
      case rel => exact ⟨m / 10, pre ++ [m % 10], congrArg (Value.int .i64) (by omega), by have := HM.out; omega, by have := H10.out; omega, by rw [HL.out, lowD_step m H10.out, List.append_assoc]; rfl, hrow2, hB2⟩
      case measure => have := HG.out; omega
    · have i10 : ¬ (10 : Int) ≤ m := by omega
      have hrow' : IntRow w.heap.size wr u3 (lowD n) := by
        rw [hl, lowD_small m (by omega)]
        rwa [Nat.mod_eq_of_lt (by omega)] at hrow
      clear hl hg hrow h10 hmn hn0 hnb hA
      go_wp2_with fail
      go_ret
      exact ⟨_, rfl, hrow', hB⟩
/-- A number as a word. -/
theorem rWord_any (n : Nat) (hn : n < 10 ^ 18) (w : World) : Calls Tryz.prog 60 #[.int .i64 (n : Int)] w fun e w' => e = .returned (.string (digs n)) ∧ Below w.heap.size w w' := by
  have hA := (Below.refl w.heap.size w).alloc (Nat.le_refl _) (.cells #[.bool false, .string ⟨#[]⟩, .int .i64 0] 23)
  have hdg := rDigits_any n hn w
  have hsz : (digs n).size ≤ 400 := Nat.le_trans (digs_le hn (by decide)) (by decide)
  have hmk : madeR false (rowval (lowD n)) 0 = (false, digs n, 0, 0) := by
    unfold madeR
    rw [rowval_lowD, if_neg (by omega)]
    rfl
  have hlen := lowD_len hn (by decide)
  have h10 : ∀ d ∈ lowD n, d < 10 := fun d hd => (lowD_canon n).2.1 d hd
  have HLEN := Lib.hid hlen
  have HMK := Lib.hid hmk
  generalize digs n = D at *
  clear hn hsz hmk hlen hA
  go_enter Tryz.func60, Tryz.ntmps60
  go_wp2_with fail
  refine hdg.mono ?_
  rintro e w1 ⟨v, rfl, hrow, hB1⟩
  have hmd := rMade_any false v (lowD n) 0 w.heap.size w1 h10 (by have := HLEN.out; omega) hrow
  rw [HMK.out] at hmd
  clear hdg h10 hrow
  go_wp2_with fail
  refine hmd.mono ?_
  rintro e w2 ⟨rfl, hB2⟩
  have hB := hB1.trans (hB2.mono hB1.size)
  have hA := hB.alloc hB.size (.cells #[.bool false, .string D, .int .i64 0] 23)
  go_wp2_with fail
  go_ret
  exact ⟨rfl, hA⟩
end Go.Proofs.YtgbemhehbhlgpaaGreatDoor
