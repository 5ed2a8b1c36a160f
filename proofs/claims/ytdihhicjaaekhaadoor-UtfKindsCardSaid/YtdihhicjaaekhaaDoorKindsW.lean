/-
  The walk of the law UtfKinds: which runes XML takes, and what kind each byte is; for every rune and byte.
-/
import Derived.Test.YtdihhicjaaekhaaDoorRows
import Derived.Test.YtdihhicjaaekhaaDoorUtfW
import Derived.Laws.BytesArg
namespace Go.Proofs.YtdihhicjaaekhaaDoor
open Go.RowKit Go.PlainAid

theorem one_wordB (p : Int → Bool) (c : UInt8) : wordB p ⟨#[c]⟩ = p (c.toNat : Int) := by
  have hb : bt ⟨#[c]⟩ 0 = (c.toNat : Int) := rfl
  unfold wordB
  cases h : p (c.toNat : Int) with
  | true =>
    rw [allB_true (fun k hk => by
      have : k = 0 := by have : (ByteArray.mk #[c]).size = 1 := rfl
                         omega
      rw [this, hb]; exact h)]
    rfl
  | false => rw [allB_false (k := 0) (by show 0 < 1; omega) (by rw [hb]; exact h)]; rfl
theorem one_nameB (c : UInt8) : nameB ⟨#[c]⟩ = bStart (c.toNat : Int) := by
  have hb : bt ⟨#[c]⟩ 0 = (c.toNat : Int) := rfl
  rw [nameB_eq, one_wordB, hb, bByte_eq]
  cases bStart (c.toNat : Int) <;> simp

set_option maxHeartbeats 1000000 in
theorem utfKinds_walk (r b : Int) (w : World) (_hr0 : -2147483648 ≤ r) (_hr1 : r ≤ 2147483647) (hb0 : 0 ≤ b) (hb1 : b ≤ 255) (hT : Tabs w) :
    Calls Tryd.prog 5 #[.int .i32 r, .int .u8 b] w fun e w' => e = .returned (.bool true) ∧ Below w.heap.size w w' := by
  have hlt : b < 256 := by omega
  obtain ⟨c, rfl⟩ : ∃ c : UInt8, b = (c.toNat : Int) := ⟨UInt8.ofNat b.toNat, by simp; omega⟩
  have hconv : ∀ W : World, (convert 30 9 (.slice (some ⟨W.heap.size, 0, none⟩) 1 1)).run Tryd.prog (W.alloc (.cells #[.int .u8 (c.toNat : Int)] 5)) = .ok (.string ⟨#[c]⟩) (W.alloc (.cells #[.int .u8 (c.toNat : Int)] 5)) := fun W =>
    run_convert_bytes_back (P := Tryd.prog) (W.alloc (.cells #[.int .u8 (c.toNat : Int)] 5)) 30 9 5 ⟨W.heap.size, 0, none⟩ 1 [c] Tryd.underlying30 Tryd.underlying5 Tryd.underlying9 (fun j hj => by
      obtain rfl : j = 0 := by simpa using hj
      show (W.alloc (.cells #[.int .u8 (c.toNat : Int)] 5)).cell? ⟨W.heap.size, 0, none⟩ = some (.int .u8 (c.toNat : Int))
      go_simp)
  have c1 := fun w => char_any r w
  have c2 := fun w => rChar_any r w
  have c3 := fun w => nameStart_any (c.toNat : Int) hb0 hlt w
  have c4 := fun w => rStart_any (c.toNat : Int) w
  have c5 := fun w => nameByte_any (c.toNat : Int) hb0 hlt w
  have c6 := fun w => rByte_any (c.toNat : Int) w
  have c7 := fun w => blank_any (c.toNat : Int) hb0 hlt w
  have c8 := fun w => rBlank_any (c.toNat : Int) w
  have c9 := fun w => letters_any ⟨#[c]⟩ w (by show (1 : Nat) ≤ _; omega)
  have c10 := fun w => rLetter_any (c.toNat : Int) w
  have c11 := fun w => digits_any ⟨#[c]⟩ w (by show (1 : Nat) ≤ _; omega)
  have c12 := fun w => rDigit_any (c.toNat : Int) w
  have c13 := fun w => name_any ⟨#[c]⟩ w (by show (1 : Nat) ≤ _; omega)
  rw [one_wordB] at c9 c11
  rw [one_nameB] at c13
  have H1 := Lib.hid c1; have H2 := Lib.hid c2; have H3 := Lib.hid c3; have H4 := Lib.hid c4; have H5 := Lib.hid c5; have H6 := Lib.hid c6
  have H7 := Lib.hid c7; have H8 := Lib.hid c8; have H9 := Lib.hid c9; have H10 := Lib.hid c10; have H11 := Lib.hid c11; have H12 := Lib.hid c12; have H13 := Lib.hid c13
  clear c1 c2 c3 c4 c5 c6 c7 c8 c9 c10 c11 c12 c13
  generalize rChar r = x1 at H1 H2
  generalize bStart (c.toNat : Int) = x2 at H3 H4 H13
  generalize bByte (c.toNat : Int) = x3 at H5 H6
  generalize bBlank (c.toNat : Int) = x4 at H7 H8
  generalize bLetter (c.toNat : Int) = x5 at H9 H10
  generalize bDigit (c.toNat : Int) = x6 at H11 H12
  go_enter Tryd.func5, Tryd.ntmps5
  go_wp2_with (first | (go_at_call 11; refine (wakes_any _ hT).mono ?_; rintro e w1 ⟨rfl, hB1⟩) | (go_at_call 27; refine (H1.out _).mono ?_; rintro e w3 ⟨rfl, rfl⟩) | (go_at_call 28; refine (H2.out _).mono ?_; rintro e w3 ⟨rfl, rfl⟩) | (go_at_call 29; refine (H3.out _).mono ?_; rintro e w3 ⟨rfl, rfl⟩) | (go_at_call 30; refine (H4.out _).mono ?_; rintro e w3 ⟨rfl, rfl⟩) | (go_at_call 31; refine (H5.out _).mono ?_; rintro e w3 ⟨rfl, rfl⟩) | (go_at_call 32; refine (H6.out _).mono ?_; rintro e w3 ⟨rfl, rfl⟩) | (go_at_call 33; refine (H7.out _).mono ?_; rintro e w3 ⟨rfl, rfl⟩) | (go_at_call 34; refine (H8.out _).mono ?_; rintro e w3 ⟨rfl, rfl⟩))
  go_wp2_with (first | (go_at_call 17; refine (H9.out _).mono ?_; rintro e w3 ⟨rfl, rfl⟩) | (go_at_call 35; refine (H10.out _).mono ?_; rintro e w3 ⟨rfl, rfl⟩) | (go_at_call 19; refine (H11.out _).mono ?_; rintro e w3 ⟨rfl, rfl⟩) | (go_at_call 36; refine (H12.out _).mono ?_; rintro e w3 ⟨rfl, rfl⟩) | (go_at_call 15; refine (H13.out _).mono ?_; rintro e w3 ⟨rfl, rfl⟩) | (go_at_call 30; refine (H4.out _).mono ?_; rintro e w3 ⟨rfl, rfl⟩))
  go_ret
  exact ⟨rfl, hB1.alloc hB1.size _⟩
end Go.Proofs.YtdihhicjaaekhaaDoor
