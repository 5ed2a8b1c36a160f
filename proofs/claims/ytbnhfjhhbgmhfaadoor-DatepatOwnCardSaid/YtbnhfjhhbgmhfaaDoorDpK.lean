/-
  Patterns of dates: letters, ranks, how often a letter may stand; the program's and the reference's.
-/
import Derived.Test.YtbnhfjhhbgmhfaaDoorRows
import Derived.Test.YtbnhfjhhbgmhfaaDoorDpP
import Derived.Test.YtbnhfjhhbgmhfaaDoorChk
import Derived.Test.YtbnhfjhhbgmhfaaDoorShelf
import Derived.ScopeJumps
import Derived.Deep.LoopGhost
namespace Go.Proofs.YtbnhfjhhbgmhfaaDoor
open Go.RowKit Go.PlainAid

set_option maxHeartbeats 1000000 in
theorem letter_any (b : Int) (w : World) :
    Calls Tryd.prog 30 #[.int .u8 b] w fun e w' => e = .returned (.bool (bLetter b)) ∧ w = w' := by
  go_enter Tryd.func30, Tryd.ntmps30
  go_wp2
  all_goals (go_ret; refine ⟨ret_bool ?_, rfl⟩; rw [Bool.eq_iff_iff]; simp_all [bLetter]; try omega)

set_option maxHeartbeats 1000000 in
theorem rLetter_any (b : Int) (w : World) :
    Calls Tryd.prog 36 #[.int .u8 b] w fun e w' => e = .returned (.bool (bLetter b)) ∧ w = w' := by
  go_enter Tryd.func36, Tryd.ntmps36
  go_wp2
  all_goals (go_ret; refine ⟨ret_bool ?_, rfl⟩; rw [Bool.eq_iff_iff]; simp_all [bLetter]; try omega)

set_option maxRecDepth 100000 in
set_option maxHeartbeats 4000000 in
theorem rank_any (b : Int) (w : World) :
    Calls Tryd.prog 23 #[.int .u8 b] w fun e w' => e = .returned (.int .i64 (rankB b : Int)) ∧ w = w' := by
  go_enter Tryd.func23, Tryd.ntmps23
  go_wp2
  all_goals (go_ret; refine ⟨ret_int ?_, rfl⟩; unfold rankB; simp_all)

theorem to13 {r : Nat} (h : r ≤ 13) : r = 0 ∨ r = 1 ∨ r = 2 ∨ r = 3 ∨ r = 4 ∨ r = 5 ∨ r = 6 ∨ r = 7 ∨ r = 8 ∨ r = 9 ∨ r = 10 ∨ r = 11 ∨ r = 12 ∨ r = 13 := by omega

theorem most_idx : ∀ k, k < 14 → ∀ W : World, (Instr.index 82 (.agg #[.int .i64 0, .int .i64 5, .int .i64 9, .int .i64 5, .int .i64 2, .int .i64 6, .int .i64 2, .int .i64 3, .int .i64 5, .int .i64 2, .int .i64 2, .int .i64 2, .int .i64 9, .int .i64 5]) (.int .i64 (k : Nat))).run Tryd.prog W = .ok (.int .i64 (mostN k)) W := by
  intro k hk W
  rcases to13 (by omega : k ≤ 13) with rfl | rfl | rfl | rfl | rfl | rfl | rfl | rfl | rfl | rfl | rfl | rfl | rfl | rfl <;> simp [Instr.index, go_sem, mostN]

set_option maxRecDepth 100000 in
set_option maxHeartbeats 4000000 in
theorem most_any (r : Nat) (h : r ≤ 13) (w : World) :
    Calls Tryd.prog 31 #[.int .i64 r] w fun e w' => e = .returned (.int .i64 (mostN r : Int)) ∧ w = w' := by
  have hx := most_idx r (by omega)
  go_enter Tryd.func31, Tryd.ntmps31
  go_wp2
  go_ret
  exact ⟨rfl, rfl⟩

set_option maxRecDepth 100000 in
set_option maxHeartbeats 4000000 in
theorem rMost_any (r : Nat) (h0 : 1 ≤ r) (h : r ≤ 13) (w : World) :
    Calls Tryd.prog 38 #[.int .i64 r] w fun e w' => e = .returned (.int .i64 (mostN r : Int)) ∧ w = w' := by
  rcases to13 h with rfl | rfl | rfl | rfl | rfl | rfl | rfl | rfl | rfl | rfl | rfl | rfl | rfl | rfl
  · omega
  all_goals
    go_enter Tryd.func38, Tryd.ntmps38
    go_wp2
    go_ret
    exact ⟨rfl, rfl⟩

/-- The letters of a rank. -/
def lettersS (r : Nat) : ByteArray :=
  [⟨#[90, 120]⟩, ⟨#[71]⟩, ⟨#[121]⟩, ⟨#[77, 76]⟩, ⟨#[119]⟩, ⟨#[69, 99]⟩, ⟨#[100]⟩, ⟨#[68]⟩, ⟨#[97, 98]⟩, ⟨#[104, 72, 75, 107]⟩, ⟨#[109]⟩, ⟨#[115]⟩, ⟨#[83]⟩].getD r ⟨#[90, 120]⟩
set_option maxRecDepth 100000 in
set_option maxHeartbeats 4000000 in
theorem letters_any (r : Nat) (h0 : 1 ≤ r) (h : r ≤ 13) (w : World) :
    Calls Tryd.prog 56 #[.int .i64 r] w fun e w' => e = .returned (.string (lettersS r)) ∧ w = w' := by
  rcases to13 h with rfl | rfl | rfl | rfl | rfl | rfl | rfl | rfl | rfl | rfl | rfl | rfl | rfl | rfl
  · omega
  all_goals
    go_enter Tryd.func56, Tryd.ntmps56
    go_wp2
    go_ret
    exact ⟨rfl, rfl⟩
theorem letters_hit : ∀ (r : Fin 14) (b : Fin 256), 1 ≤ r.val → ∀ i : Fin 4, i.val < (lettersS r.val).size → bt (lettersS r.val) i.val = (b.val : Int) → rankB (b.val : Int) = r.val := by decide +kernel
theorem letters_miss : ∀ (r : Fin 14) (b : Fin 256), 1 ≤ r.val → (∀ i : Fin 4, i.val < (lettersS r.val).size → ¬ bt (lettersS r.val) i.val = (b.val : Int)) → ¬ rankB (b.val : Int) = r.val := by decide +kernel
theorem letters_size : ∀ r : Fin 14, (lettersS r.val).size ≤ 4 := by decide +kernel

set_option maxRecDepth 100000 in
set_option maxHeartbeats 4000000 in
theorem rRank_any (b : Nat) (hb : b < 256) (w : World) :
    Calls Tryd.prog 26 #[.int .u8 b] w fun e w' => e = .returned (.int .i64 (rankB b : Int)) ∧ w = w' := by
  have hle := rankB_le b
  go_enter Tryd.func26, Tryd.ntmps26
  go_wp2_with fail
  go_loopg [3] 13 (fun g s3 wr => ∃ r : Nat, r + g = 14 ∧ s3 = .int .i64 (r : Int) ∧ 1 ≤ r ∧ (rankB b = 0 ∨ r ≤ rankB b) ∧ wr = w)
  case atStart => exact ⟨1, by omega, rfl, Nat.le_refl _, by omega, rfl⟩
  case round =>
    obtain ⟨r, hr, rfl, h1, hrk, rfl⟩ := hrel
    cases gk with
    | zero =>
      have h13 : ¬ (r : Int) ≤ 13 := by omega
      have h0 : rankB b = 0 := by omega
      have H0 := Lib.hid h0
      clear h0 hrk hle
      go_wp2_with fail
      go_ret
      exact ⟨by rw [H0.out]; rfl, rfl⟩
    | succ g =>
      have h13 : (r : Int) ≤ 13 := by omega
      have hl := fun W => letters_any r h1 (by omega) W
      have hz := letters_size ⟨r, by omega⟩
      have hhit := letters_hit ⟨r, by omega⟩ ⟨b, hb⟩ h1
      have hmiss := letters_miss ⟨r, by omega⟩ ⟨b, hb⟩ h1
      simp only at hz hhit hmiss
      generalize lettersS r = L at *
      have HHIT := Lib.hid hhit; have HMISS := Lib.hid hmiss; have HRK := Lib.hid hrk
      clear hhit hmiss hrk hle
      go_wp2_with fail
      refine (hl _).mono ?_
      rintro e w1 ⟨rfl, rfl⟩
      clear hl
      go_wp2_with fail
      go_loopg [5] L.size (fun g s5 wx => ∃ i : Nat, i + g = L.size ∧ s5 = .int .i64 (i : Int) ∧ (∀ j, j < i → ¬ bt L j = (b : Int)) ∧ wx = wr)
      case atStart => exact ⟨0, by omega, rfl, fun j hj => absurd hj (by omega), rfl⟩
      case round =>
        obtain ⟨i, hi, rfl, hn, rfl⟩ := hrel
        by_cases hiL : i < L.size
        · have hbt : ((L[i]'hiL).toNat : Int) = bt L i := by unfold bt; rw [dif_pos hiL]
          by_cases hib : bt L i = (b : Int)
          · have hres := HHIT.out ⟨i, by omega⟩ hiL hib
            have HRES := Lib.hid hres
            clear hres hn
            go_wp2_with fail
            go_ret
            exact ⟨by rw [HRES.out]; rfl, rfl⟩
          · have HN := Lib.hid hn
            have hieq : (bt L i == (b : Int)) = false := by simpa using hib
            have HIB := Lib.hid hib
            clear hn hib
            go_wp2_with fail
            go_roundg (gk - 1)
            case rel => exact ⟨i + 1, by omega, by push_cast; rfl, fun j hj => by by_cases h : j = i; · rw [h]; exact HIB.out
                                                                                  · exact HN.out j (by omega), rfl⟩
            case measure => omega
        · have hmiss := HMISS.out (fun j hj => hn j.val (by omega))
          have hnew : rankB (b : Int) = 0 ∨ r + 1 ≤ rankB (b : Int) := by have := HRK.out; omega
          have HNEW := Lib.hid hnew
          clear hmiss hnew hn
          go_wp2_with fail
          go_roundg g
          case rel => exact ⟨r + 1, by omega, by push_cast; rfl, by omega, HNEW.out, rfl⟩
          case measure => omega
end Go.Proofs.YtbnhfjhhbgmhfaaDoor
