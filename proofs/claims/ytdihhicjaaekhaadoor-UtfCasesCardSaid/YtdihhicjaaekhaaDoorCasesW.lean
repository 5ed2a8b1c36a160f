/-
  The walk of the law UtfCases: small letters and capitals lead to each other, and leave lengths and right texts as they are.
-/
import Derived.Test.YtdihhicjaaekhaaDoorRows
import Derived.Test.YtdihhicjaaekhaaDoorUtfW
import Derived.Test.YtdihhicjaaekhaaDoorCasesP
namespace Go.Proofs.YtdihhicjaaekhaaDoor
open Go.RowKit Go.PlainAid

theorem spot_cases (k : Int) : ∃ a b, spotV k = .agg #[.int .i64 a, .int .i64 b] := by
  unfold spotV
  split
  · exact ⟨_, _, rfl⟩
  · exact ⟨_, _, rfl⟩

set_option maxHeartbeats 1000000 in
theorem utfCases_walk (s : ByteArray) (w : World) (hr : s.size ≤ 140737488351232) (hT : Tabs w) :
    Calls Tryd.prog 10 #[.string s] w fun e w' => e = .returned (.bool true) ∧ Below w.heap.size w w' := by
  have hs : s.size ≤ 1000000000000000 := by omega
  have z1 := low_size s
  have z2 := high_size s
  have z3 := title_size s
  have l1 := fun w => lower_any s w hs
  have l2 := fun w => lower_any (high s) w (by omega)
  have l3 := fun w => lower_any (titleS s) w (by omega)
  have l4 := fun w => lower_any (low s) w (by omega)
  have u1 := fun w => upper_any s w hs
  have u2 := fun w => upper_any (low s) w (by omega)
  have t1 := fun w => title_any s w hs
  have k1 := fun w => check_any s w hs
  have k2 := fun w => check_any (low s) w (by omega)
  have k3 := fun w => check_any (high s) w (by omega)
  have p1 := fun w => letters_any s w hs
  have p2 := fun w => letters_any (low s) w (by omega)
  have n1 := fun w => name_any s w hs
  have n2 := fun w => name_any (high s) w (by omega)
  rw [low_high] at l2
  rw [low_title] at l3
  rw [low_low] at l4
  rw [high_low] at u2
  rw [brk_low] at k2
  rw [brk_high] at k3
  rw [letters_low] at p2
  rw [name_high] at n2
  clear z3
  generalize low s = L at *
  generalize high s = U at *
  generalize titleS s = T at *
  obtain ⟨a, b, hab⟩ := spot_cases (brk s 0)
  rw [hab] at k1 k2 k3
  clear hab
  generalize wordB bLetter s = x1 at *
  generalize nameB s = x2 at *
  have q1 : ((L.size : Int) != (s.size : Int)) = false := by simp; omega
  have q2 : ((U.size : Int) != (s.size : Int)) = false := by simp; omega
  clear z1 z2
  have L1 := Lib.hid l1; have L2 := Lib.hid l2; have L3 := Lib.hid l3; have L4 := Lib.hid l4; have U1 := Lib.hid u1; have U2 := Lib.hid u2; have T1 := Lib.hid t1
  have K1 := Lib.hid k1; have K2 := Lib.hid k2; have K3 := Lib.hid k3; have P1 := Lib.hid p1; have P2 := Lib.hid p2; have N1 := Lib.hid n1; have N2 := Lib.hid n2
  clear l1 l2 l3 l4 u1 u2 t1 k1 k2 k3 p1 p2 n1 n2
  go_enter Tryd.func10, Tryd.ntmps10
  go_wp2_with (go_at_call 11; refine (wakes_any _ hT).mono ?_; rintro e w1 ⟨rfl, hB1⟩)
  refine (L1.out _).mono ?_; rintro e w2 ⟨rfl, hB2⟩; have b2 := hB1.trans (hB2.mono hB1.size)
  go_wp2_with fail
  refine (U1.out _).mono ?_; rintro e w3 ⟨rfl, hB3⟩; have b3 := b2.trans (hB3.mono b2.size)
  go_wp2_with fail
  refine (T1.out _).mono ?_; rintro e w4 ⟨rfl, hB4⟩; have b4 := b3.trans (hB4.mono b3.size)
  go_wp2_with fail
  refine (L2.out _).mono ?_; rintro e w5 ⟨rfl, hB5⟩; have b5 := b4.trans (hB5.mono b4.size)
  go_wp2_with fail
  refine (U2.out _).mono ?_; rintro e w6 ⟨rfl, hB6⟩; have b6 := b5.trans (hB6.mono b5.size)
  go_wp2_with fail
  refine (L3.out _).mono ?_; rintro e w7 ⟨rfl, hB7⟩; have b7 := b6.trans (hB7.mono b6.size)
  go_wp2_with fail
  refine (L4.out _).mono ?_; rintro e w8 ⟨rfl, hB8⟩; have b8 := b7.trans (hB8.mono b7.size)
  go_wp2_with fail
  refine (K2.out _).mono ?_; rintro e w9 ⟨rfl, hB9⟩; have b9 := b8.trans (hB9.mono b8.size)
  go_wp2_with fail
  refine (K1.out _).mono ?_; rintro e w10 ⟨rfl, hB10⟩; have b10 := b9.trans (hB10.mono b9.size)
  go_wp2_with fail
  refine (K3.out _).mono ?_; rintro e w11 ⟨rfl, hB11⟩; have b11 := b10.trans (hB11.mono b10.size)
  go_wp2_with fail
  refine (K1.out _).mono ?_; rintro e w12 ⟨rfl, hB12⟩; have b12 := b11.trans (hB12.mono b11.size)
  go_wp2_with fail
  refine (P1.out _).mono ?_; rintro e w13 ⟨rfl, rfl⟩
  go_wp2_with fail
  refine (P2.out _).mono ?_; rintro e w13 ⟨rfl, rfl⟩
  go_wp2_with fail
  refine (N1.out _).mono ?_; rintro e w13 ⟨rfl, rfl⟩
  go_wp2_with fail
  refine (N2.out _).mono ?_; rintro e w13 ⟨rfl, rfl⟩
  go_wp2
  go_ret
  exact ⟨rfl, b12⟩
end Go.Proofs.YtdihhicjaaekhaaDoor
