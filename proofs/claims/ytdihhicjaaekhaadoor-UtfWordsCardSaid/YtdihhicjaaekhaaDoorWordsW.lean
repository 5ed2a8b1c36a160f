/-
  The walk of the law UtfWords: which texts are names, letters, digits; in small letters, in capitals; for every text.
-/
import Derived.Test.YtdihhicjaaekhaaDoorRows
import Derived.Test.YtdihhicjaaekhaaDoorUtfW
namespace Go.Proofs.YtdihhicjaaekhaaDoor
open Go.RowKit Go.PlainAid

set_option maxHeartbeats 1000000 in
theorem utfWords_walk (s : ByteArray) (w : World) (hr : s.size ≤ 140737488351232) (hT : Tabs w) :
    Calls Tryd.prog 4 #[.string s] w fun e w' => e = .returned (.bool true) ∧ Below w.heap.size w w' := by
  have hs : s.size ≤ 1000000000000000 := by omega
  have c1 := fun w => name_any s w hs
  have c2 := fun w => rName_any s w hs
  have c3 := fun w => letters_any s w hs
  have c4 := fun w => rLetters_any s w hs
  have c5 := fun w => digits_any s w hs
  have c6 := fun w => rDigits_any s w hs
  have c7 := fun w => lower_any s w hs
  have c8 := fun w => rLow_any s w hs
  have c9 := fun w => upper_any s w hs
  have c10 := fun w => rHigh_any s w hs
  have c11 := fun w => title_any s w hs
  have c12 := fun w => rTitle_any s w hs
  generalize nameB s = x1 at c1 c2
  generalize wordB bLetter s = x2 at c3 c4
  generalize wordB bDigit s = x3 at c5 c6
  generalize low s = x4 at c7 c8
  generalize high s = x5 at c9 c10
  generalize titleS s = x6 at c11 c12
  have H1 := Lib.hid c1; have H2 := Lib.hid c2; have H3 := Lib.hid c3; have H4 := Lib.hid c4; have H5 := Lib.hid c5; have H6 := Lib.hid c6
  have H7 := Lib.hid c7; have H8 := Lib.hid c8; have H9 := Lib.hid c9; have H10 := Lib.hid c10; have H11 := Lib.hid c11; have H12 := Lib.hid c12
  clear c1 c2 c3 c4 c5 c6 c7 c8 c9 c10 c11 c12
  go_enter Tryd.func4, Tryd.ntmps4
  go_wp2_with (first | (go_at_call 11; refine (wakes_any _ hT).mono ?_; rintro e w1 ⟨rfl, hB1⟩) | (go_at_call 15; refine (H1.out _).mono ?_; rintro e w3 ⟨rfl, rfl⟩) | (go_at_call 16; refine (H2.out _).mono ?_; rintro e w3 ⟨rfl, rfl⟩) | (go_at_call 17; refine (H3.out _).mono ?_; rintro e w3 ⟨rfl, rfl⟩) | (go_at_call 18; refine (H4.out _).mono ?_; rintro e w3 ⟨rfl, rfl⟩) | (go_at_call 19; refine (H5.out _).mono ?_; rintro e w3 ⟨rfl, rfl⟩) | (go_at_call 20; refine (H6.out _).mono ?_; rintro e w3 ⟨rfl, rfl⟩) | (go_at_call 21; refine (H7.out _).mono ?_; rintro e w7 ⟨rfl, hB7⟩) | (go_at_call 22; refine (H8.out _).mono ?_; rintro e w8 ⟨rfl, hB8⟩) | (go_at_call 23; refine (H9.out _).mono ?_; rintro e w9 ⟨rfl, hB9⟩) | (go_at_call 24; refine (H10.out _).mono ?_; rintro e w10 ⟨rfl, hB10⟩) | (go_at_call 25; refine (H11.out _).mono ?_; rintro e w11 ⟨rfl, hB11⟩) | (go_at_call 26; refine (H12.out _).mono ?_; rintro e w12 ⟨rfl, hB12⟩))
  go_ret
  have b7 := hB1.trans (hB7.mono hB1.size)
  have b8 := b7.trans (hB8.mono b7.size)
  have b9 := b8.trans (hB9.mono b8.size)
  have b10 := b9.trans (hB10.mono b9.size)
  have b11 := b10.trans (hB11.mono b10.size)
  exact ⟨rfl, b11.trans (hB12.mono b11.size)⟩
end Go.Proofs.YtdihhicjaaekhaaDoor
