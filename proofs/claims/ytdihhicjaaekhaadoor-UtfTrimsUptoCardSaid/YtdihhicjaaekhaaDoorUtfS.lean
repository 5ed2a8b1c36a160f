/-
  The walks of utf.Blank, utf.all, Name, Letters, Digits, and of the reference's words for them.
-/
import Derived.Test.YtdihhicjaaekhaaDoorRows
import Derived.Test.YtdihhicjaaekhaaDoorUtfQ
import Derived.Test.YtdihhicjaaekhaaDoorUtfK
import Derived.Test.YtdihhicjaaekhaaDoorShelf
import Derived.WalkKit
import Derived.WalkSpells
import Derived.WalkLawsBesides
import Derived.Lib.Hide
import Derived.Handy
namespace Go.Proofs.YtdihhicjaaekhaaDoor
open Go.RowKit Go.PlainAid

theorem blank_all : ∀ n : Fin 256, decide (0 ≤ Lib.indexByte [9, 10, 13, 32] ((n.val : Int).toNat.toUInt8)) = bBlank (n.val : Int) := by decide +kernel
theorem blank_at (b : Int) (h0 : 0 ≤ b) (h1 : b < 256) : decide (0 ≤ Lib.indexByte [9, 10, 13, 32] b.toNat.toUInt8) = bBlank b := by
  have := blank_all ⟨b.toNat, by omega⟩
  simpa [Int.toNat_of_nonneg h0] using this

set_option maxHeartbeats 400000 in
theorem blank_any (b : Int) (h0 : 0 ≤ b) (h1 : b < 256) (w : World) :
    Calls Tryd.prog 33 #[.int .u8 b] w fun e w' => e = .returned (.bool (bBlank b)) ∧ w = w' := by
  have H := Lib.hid (blank_at b h0 h1)
  have c := Tryd.strings_IndexByte ⟨#[9, 10, 13, 32]⟩ b w
  change Calls _ _ _ _ (fun e w' => e = .returned (.int .i64 (Lib.indexByte [9, 10, 13, 32] b.toNat.toUInt8)) ∧ w' = w) at c
  generalize Lib.indexByte [9, 10, 13, 32] b.toNat.toUInt8 = r at c H
  go_enter Tryd.func33, Tryd.ntmps33
  go_wp2_with (go_at_call 49; refine c.mono ?_; rintro e w' ⟨rfl, rfl⟩)
  go_ret
  exact ⟨ret_bool H.out, rfl⟩

/-- All bytes of a text are of one kind. -/
def allB (p : Int → Bool) (s : ByteArray) : Bool := decide (∀ k, k < s.size → p (bt s k) = true)
theorem allB_true {p : Int → Bool} {s : ByteArray} (h : ∀ k, k < s.size → p (bt s k) = true) : allB p s = true := decide_eq_true h
theorem allB_false {p : Int → Bool} {s : ByteArray} {k : Nat} (hk : k < s.size) (h : p (bt s k) = false) : allB p s = false :=
  decide_eq_false fun g => by rw [g k hk] at h; cases h
def wordB (p : Int → Bool) (s : ByteArray) : Bool := allB p s && decide (s.size ≠ 0)
theorem wordB_pos {p : Int → Bool} {s : ByteArray} (h : wordB p s = true) : 0 < s.size := by
  unfold wordB at h
  rw [Bool.and_eq_true] at h
  have := of_decide_eq_true h.2
  omega
def nameB (s : ByteArray) : Bool := allB bByte s && decide (s.size ≠ 0) && bStart (bt s 0)

theorem ne_empty (s : ByteArray) : (!s.toList.isEmpty) = decide (s.size ≠ 0) := by
  rw [Lib.toList_data, Lib.size_eq]
  cases s.data.toList <;> simp
theorem is_empty (s : ByteArray) : s.toList.isEmpty = decide (s.size = 0) := by
  rw [Lib.toList_data, Lib.size_eq]
  cases s.data.toList <;> simp

set_option maxHeartbeats 1000000 in
theorem allName_any (s : ByteArray) (w : World) (hs : s.size ≤ 1000000000000000) :
    Calls Tryd.prog 45 #[.string s, .func (.func 31) #[] #[]] w fun e w' => e = .returned (.bool (wordB bByte s)) ∧ w = w' := by
  have hb := get_bt s
  have H := Lib.hid (ne_empty s)
  go_enter Tryd.func45, Tryd.ntmps45
  go_wp2
  go_loop [8] (fun i => ∃ (pos : Nat), i = .int .i64 pos ∧ pos ≤ s.size ∧ ∀ k, k < pos → bByte (bt s k) = true) (fun i => s.size - (intOf i).toNat)
  case atStart => exact ⟨0, rfl, Nat.zero_le _, fun k hk => absurd hk (by omega)⟩
  case round =>
    obtain ⟨pos, rfl, hle, hall⟩ := hrel
    have HA := Lib.hid hall; clear hall
    by_cases hp : pos < s.size
    · have l0 := bt_nonneg s pos; have u0 := bt_le s pos
      have c := nameByte_any (bt s pos) l0 (by omega) w
      cases hB : bByte (bt s pos) with
      | false =>
        rw [hB] at c
        have HB := Lib.hid hB; clear hB
        go_wp2_with (go_at_call 31; refine c.mono ?_; rintro e w' ⟨rfl, rfl⟩)
        go_ret
        exact ⟨ret_bool (by unfold wordB; rw [allB_false hp HB.out]; rfl), rfl⟩
      | true =>
        rw [hB] at c
        have HB := Lib.hid hB; clear hB
        go_wp2_with (go_at_call 31; refine c.mono ?_; rintro e w' ⟨rfl, rfl⟩)
        go_round
        case rel => exact ⟨pos + 1, by go_num, by omega, fun k hk => by by_cases e : k = pos; { subst e; exact HB.out }; exact HA.out k (by omega)⟩
        case measure => simp [intOf]; omega
    · go_wp2
      go_ret
      refine ⟨ret_bool ?_, rfl⟩
      unfold wordB
      rw [H.out, allB_true (fun k hk => HA.out k (by omega))]
      rfl
set_option maxHeartbeats 1000000 in
theorem allLetter_any (s : ByteArray) (w : World) (hs : s.size ≤ 1000000000000000) :
    Calls Tryd.prog 45 #[.string s, .func (.func 46) #[] #[]] w fun e w' => e = .returned (.bool (wordB bLetter s)) ∧ w = w' := by
  have hb := get_bt s
  have H := Lib.hid (ne_empty s)
  go_enter Tryd.func45, Tryd.ntmps45
  go_wp2
  go_loop [8] (fun i => ∃ (pos : Nat), i = .int .i64 pos ∧ pos ≤ s.size ∧ ∀ k, k < pos → bLetter (bt s k) = true) (fun i => s.size - (intOf i).toNat)
  case atStart => exact ⟨0, rfl, Nat.zero_le _, fun k hk => absurd hk (by omega)⟩
  case round =>
    obtain ⟨pos, rfl, hle, hall⟩ := hrel
    have HA := Lib.hid hall; clear hall
    by_cases hp : pos < s.size
    · have l0 := bt_nonneg s pos; have u0 := bt_le s pos
      have c := letter_any (bt s pos) l0 (by omega) w
      cases hB : bLetter (bt s pos) with
      | false =>
        rw [hB] at c
        have HB := Lib.hid hB; clear hB
        go_wp2_with (go_at_call 46; refine c.mono ?_; rintro e w' ⟨rfl, rfl⟩)
        go_ret
        exact ⟨ret_bool (by unfold wordB; rw [allB_false hp HB.out]; rfl), rfl⟩
      | true =>
        rw [hB] at c
        have HB := Lib.hid hB; clear hB
        go_wp2_with (go_at_call 46; refine c.mono ?_; rintro e w' ⟨rfl, rfl⟩)
        go_round
        case rel => exact ⟨pos + 1, by go_num, by omega, fun k hk => by by_cases e : k = pos; { subst e; exact HB.out }; exact HA.out k (by omega)⟩
        case measure => simp [intOf]; omega
    · go_wp2
      go_ret
      refine ⟨ret_bool ?_, rfl⟩
      unfold wordB
      rw [H.out, allB_true (fun k hk => HA.out k (by omega))]
      rfl
set_option maxHeartbeats 1000000 in
theorem allDigit_any (s : ByteArray) (w : World) (hs : s.size ≤ 1000000000000000) :
    Calls Tryd.prog 45 #[.string s, .func (.func 47) #[] #[]] w fun e w' => e = .returned (.bool (wordB bDigit s)) ∧ w = w' := by
  have hb := get_bt s
  have H := Lib.hid (ne_empty s)
  go_enter Tryd.func45, Tryd.ntmps45
  go_wp2
  go_loop [8] (fun i => ∃ (pos : Nat), i = .int .i64 pos ∧ pos ≤ s.size ∧ ∀ k, k < pos → bDigit (bt s k) = true) (fun i => s.size - (intOf i).toNat)
  case atStart => exact ⟨0, rfl, Nat.zero_le _, fun k hk => absurd hk (by omega)⟩
  case round =>
    obtain ⟨pos, rfl, hle, hall⟩ := hrel
    have HA := Lib.hid hall; clear hall
    by_cases hp : pos < s.size
    · have l0 := bt_nonneg s pos; have u0 := bt_le s pos
      have c := digit_any (bt s pos) l0 (by omega) w
      cases hB : bDigit (bt s pos) with
      | false =>
        rw [hB] at c
        have HB := Lib.hid hB; clear hB
        go_wp2_with (go_at_call 47; refine c.mono ?_; rintro e w' ⟨rfl, rfl⟩)
        go_ret
        exact ⟨ret_bool (by unfold wordB; rw [allB_false hp HB.out]; rfl), rfl⟩
      | true =>
        rw [hB] at c
        have HB := Lib.hid hB; clear hB
        go_wp2_with (go_at_call 47; refine c.mono ?_; rintro e w' ⟨rfl, rfl⟩)
        go_round
        case rel => exact ⟨pos + 1, by go_num, by omega, fun k hk => by by_cases e : k = pos; { subst e; exact HB.out }; exact HA.out k (by omega)⟩
        case measure => simp [intOf]; omega
    · go_wp2
      go_ret
      refine ⟨ret_bool ?_, rfl⟩
      unfold wordB
      rw [H.out, allB_true (fun k hk => HA.out k (by omega))]
      rfl

set_option maxHeartbeats 1000000 in
theorem letters_any (s : ByteArray) (w : World) (hs : s.size ≤ 1000000000000000) :
    Calls Tryd.prog 17 #[.string s] w fun e w' => e = .returned (.bool (wordB bLetter s)) ∧ w = w' := by
  go_enter Tryd.func17, Tryd.ntmps17
  go_wp2_with (go_at_call 45; refine (allLetter_any s w hs).mono ?_; rintro e w' ⟨rfl, rfl⟩)
  go_ret
  exact ⟨rfl, rfl⟩
set_option maxHeartbeats 1000000 in
theorem digits_any (s : ByteArray) (w : World) (hs : s.size ≤ 1000000000000000) :
    Calls Tryd.prog 19 #[.string s] w fun e w' => e = .returned (.bool (wordB bDigit s)) ∧ w = w' := by
  go_enter Tryd.func19, Tryd.ntmps19
  go_wp2_with (go_at_call 45; refine (allDigit_any s w hs).mono ?_; rintro e w' ⟨rfl, rfl⟩)
  go_ret
  exact ⟨rfl, rfl⟩
theorem nameB_eq (s : ByteArray) : nameB s = (wordB bByte s && bStart (bt s 0)) := rfl
set_option maxHeartbeats 1000000 in
theorem name_any (s : ByteArray) (w : World) (hs : s.size ≤ 1000000000000000) :
    Calls Tryd.prog 15 #[.string s] w fun e w' => e = .returned (.bool (nameB s)) ∧ w = w' := by
  have hb := get_bt s
  have c := allName_any s w hs
  have l0 := bt_nonneg s 0; have u0 := bt_le s 0
  have HE := Lib.hid (nameB_eq s)
  cases hW : wordB bByte s with
  | false =>
    rw [hW] at c
    have HW := Lib.hid hW; clear hW
    go_enter Tryd.func15, Tryd.ntmps15
    go_wp2_with (go_at_call 45; refine c.mono ?_; rintro e w' ⟨rfl, rfl⟩)
    go_ret
    exact ⟨ret_bool (by rw [HE.out, HW.out]; rfl), rfl⟩
  | true =>
    have hp := wordB_pos hW
    rw [hW] at c
    have HW := Lib.hid hW; clear hW
    go_enter Tryd.func15, Tryd.ntmps15
    go_wp2_with (first | (go_at_call 45; refine c.mono ?_; rintro e w' ⟨rfl, rfl⟩) | (go_at_call 29; refine (nameStart_any _ (by omega) (by omega) _).mono ?_; rintro e w' ⟨rfl, rfl⟩))
    go_ret
    exact ⟨ret_bool (by rw [HE.out, HW.out]; rfl), rfl⟩

set_option maxHeartbeats 1000000 in
theorem rLetters_any (s : ByteArray) (w : World) (hs : s.size ≤ 1000000000000000) :
    Calls Tryd.prog 18 #[.string s] w fun e w' => e = .returned (.bool (wordB bLetter s)) ∧ w = w' := by
  have hb := get_bt s
  have H := Lib.hid (ne_empty s)
  go_enter Tryd.func18, Tryd.ntmps18
  go_wp2
  go_loop [3] (fun i => ∃ (pos : Nat), i = .int .i64 pos ∧ pos ≤ s.size ∧ ∀ k, k < pos → bLetter (bt s k) = true) (fun i => s.size - (intOf i).toNat)
  case atStart => exact ⟨0, rfl, Nat.zero_le _, fun k hk => absurd hk (by omega)⟩
  case round =>
    obtain ⟨pos, rfl, hle, hall⟩ := hrel
    have HA := Lib.hid hall; clear hall
    by_cases hp : pos < s.size
    · have l0 := bt_nonneg s pos; have u0 := bt_le s pos
      have c := rLetter_any (bt s pos) w
      cases hB : bLetter (bt s pos) with
      | false =>
        rw [hB] at c
        have HB := Lib.hid hB; clear hB
        go_wp2_with (go_at_call 35; refine c.mono ?_; rintro e w' ⟨rfl, rfl⟩)
        go_ret
        exact ⟨ret_bool (by unfold wordB; rw [allB_false hp HB.out]; rfl), rfl⟩
      | true =>
        rw [hB] at c
        have HB := Lib.hid hB; clear hB
        go_wp2_with (go_at_call 35; refine c.mono ?_; rintro e w' ⟨rfl, rfl⟩)
        go_round
        case rel => exact ⟨pos + 1, by go_num, by omega, fun k hk => by by_cases e : k = pos; { subst e; exact HB.out }; exact HA.out k (by omega)⟩
        case measure => simp [intOf]; omega
    · go_wp2
      go_ret
      refine ⟨ret_bool ?_, rfl⟩
      unfold wordB
      rw [H.out, allB_true (fun k hk => HA.out k (by omega))]
      rfl
set_option maxHeartbeats 1000000 in
theorem rDigits_any (s : ByteArray) (w : World) (hs : s.size ≤ 1000000000000000) :
    Calls Tryd.prog 20 #[.string s] w fun e w' => e = .returned (.bool (wordB bDigit s)) ∧ w = w' := by
  have hb := get_bt s
  have H := Lib.hid (ne_empty s)
  go_enter Tryd.func20, Tryd.ntmps20
  go_wp2
  go_loop [3] (fun i => ∃ (pos : Nat), i = .int .i64 pos ∧ pos ≤ s.size ∧ ∀ k, k < pos → bDigit (bt s k) = true) (fun i => s.size - (intOf i).toNat)
  case atStart => exact ⟨0, rfl, Nat.zero_le _, fun k hk => absurd hk (by omega)⟩
  case round =>
    obtain ⟨pos, rfl, hle, hall⟩ := hrel
    have HA := Lib.hid hall; clear hall
    by_cases hp : pos < s.size
    · have l0 := bt_nonneg s pos; have u0 := bt_le s pos
      have c := rDigit_any (bt s pos) w
      cases hB : bDigit (bt s pos) with
      | false =>
        rw [hB] at c
        have HB := Lib.hid hB; clear hB
        go_wp2_with (go_at_call 36; refine c.mono ?_; rintro e w' ⟨rfl, rfl⟩)
        go_ret
        exact ⟨ret_bool (by unfold wordB; rw [allB_false hp HB.out]; rfl), rfl⟩
      | true =>
        rw [hB] at c
        have HB := Lib.hid hB; clear hB
        go_wp2_with (go_at_call 36; refine c.mono ?_; rintro e w' ⟨rfl, rfl⟩)
        go_round
        case rel => exact ⟨pos + 1, by go_num, by omega, fun k hk => by by_cases e : k = pos; { subst e; exact HB.out }; exact HA.out k (by omega)⟩
        case measure => simp [intOf]; omega
    · go_wp2
      go_ret
      refine ⟨ret_bool ?_, rfl⟩
      unfold wordB
      rw [H.out, allB_true (fun k hk => HA.out k (by omega))]
      rfl

def NameI (s : ByteArray) (pos : Nat) : Prop := (∀ k, k < pos → bByte (bt s k) = true) ∧ (0 < pos → bStart (bt s 0) = true)
theorem nameI_zero (s : ByteArray) : NameI s 0 := ⟨fun k hk => absurd hk (by omega), fun h => absurd h (by omega)⟩
theorem nameI_one {s : ByteArray} (h1 : bStart (bt s 0) = true) (h2 : bByte (bt s 0) = true) : NameI s 1 :=
  ⟨fun k hk => by obtain rfl : k = 0 := by omega
                  exact h2, fun _ => h1⟩
theorem nameI_succ {s : ByteArray} {pos : Nat} (h : NameI s pos) (h0 : pos ≠ 0) (h2 : bByte (bt s pos) = true) : NameI s (pos + 1) :=
  ⟨fun k hk => by
    by_cases e : k = pos
    · subst e; exact h2
    · exact h.1 k (by omega), fun _ => h.2 (by omega)⟩
theorem name_no1 {s : ByteArray} (h : bStart (bt s 0) = false) : nameB s = false := by unfold nameB; rw [h]; simp
theorem name_no2 {s : ByteArray} {pos : Nat} (hp : pos < s.size) (h : bByte (bt s pos) = false) : nameB s = false := by unfold nameB; rw [allB_false hp h]; rfl

set_option maxHeartbeats 1000000 in
theorem rName_any (s : ByteArray) (w : World) (hs : s.size ≤ 1000000000000000) :
    Calls Tryd.prog 16 #[.string s] w fun e w' => e = .returned (.bool (nameB s)) ∧ w = w' := by
  have hb := get_bt s
  have H := Lib.hid (ne_empty s)
  go_enter Tryd.func16, Tryd.ntmps16
  go_wp2
  go_loop [3] (fun i => ∃ (pos : Nat), i = .int .i64 pos ∧ pos ≤ s.size ∧ NameI s pos) (fun i => s.size - (intOf i).toNat)
  case atStart => exact ⟨0, rfl, Nat.zero_le _, nameI_zero s⟩
  case round =>
    obtain ⟨pos, rfl, hle, hI⟩ := hrel
    have HI := Lib.hid hI; clear hI
    by_cases hp : pos < s.size
    · have l0 := bt_nonneg s pos; have u0 := bt_le s pos
      have c := rByte_any (bt s pos) w
      have cS := rStart_any (bt s pos) w
      by_cases h0 : pos = 0
      · subst h0
        cases hS : bStart (bt s 0) with
        | false =>
          rw [hS] at cS
          have HB := Lib.hid hS; clear hS c
          go_wp2_with (go_at_call 30; refine cS.mono ?_; rintro e w' ⟨rfl, rfl⟩)
          go_ret
          exact ⟨ret_bool (name_no1 HB.out).symm, rfl⟩
        | true =>
          rw [hS] at cS
          have HC := Lib.hid hS; clear hS
          cases hB : bByte (bt s 0) with
          | false =>
            rw [hB] at c
            have HB := Lib.hid hB; clear hB
            go_wp2_with (first | (go_at_call 30; refine cS.mono ?_; rintro e w' ⟨rfl, rfl⟩) | (go_at_call 32; refine c.mono ?_; rintro e w' ⟨rfl, rfl⟩))
            go_ret
            exact ⟨ret_bool (name_no2 hp HB.out).symm, rfl⟩
          | true =>
            rw [hB] at c
            have HB := Lib.hid hB; clear hB
            go_wp2_with (first | (go_at_call 30; refine cS.mono ?_; rintro e w' ⟨rfl, rfl⟩) | (go_at_call 32; refine c.mono ?_; rintro e w' ⟨rfl, rfl⟩))
            go_round
            case rel => exact ⟨1, by go_num, by omega, nameI_one HC.out HB.out⟩
            case measure => simp [intOf]; omega
      · have h0' : ((pos : Int) == 0) = false := by simp; omega
        cases hB : bByte (bt s pos) with
        | false =>
          rw [hB] at c
          have HB := Lib.hid hB; clear hB
          go_wp2_with (go_at_call 32; refine c.mono ?_; rintro e w' ⟨rfl, rfl⟩)
          go_ret
          exact ⟨ret_bool (name_no2 hp HB.out).symm, rfl⟩
        | true =>
          rw [hB] at c
          have HB := Lib.hid hB; clear hB
          go_wp2_with (go_at_call 32; refine c.mono ?_; rintro e w' ⟨rfl, rfl⟩)
          go_round
          case rel => exact ⟨pos + 1, by go_num, by omega, nameI_succ HI.out h0 HB.out⟩
          case measure => simp [intOf]; omega
    · by_cases hz : s.size = 0
      · go_wp2
        go_ret
        refine ⟨ret_bool ?_, rfl⟩
        unfold nameB
        rw [H.out]
        simp [hz]
      · go_wp2
        go_ret
        refine ⟨ret_bool ?_, rfl⟩
        unfold nameB
        rw [H.out, allB_true (fun k hk => HI.out.1 k (by omega)), HI.out.2 (by omega)]
        simp
end Go.Proofs.YtdihhicjaaekhaaDoor
