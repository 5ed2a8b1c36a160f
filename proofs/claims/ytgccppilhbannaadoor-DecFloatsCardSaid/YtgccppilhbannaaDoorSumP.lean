/-
  Plain: decimals as whole numbers with a sign: what is made of a sum, what is less.
-/
import Derived.Test.YtgccppilhbannaaDoorDecUp
namespace Go.Proofs.YtgccppilhbannaaDoor
open Go.RowKit Go.PlainAid

/-- A number with a sign. -/
def sv (neg : Bool) (n : Nat) : Int := if neg = true then -(n : Int) else n
theorem sv_true (n : Nat) : sv true n = -(n : Int) := rfl
theorem sv_false (n : Nat) : sv false n = n := rfl
/-- The decimal that is made of a whole number at a scale. -/
def madeZ (z : Int) (sc : Int) : Bool × ByteArray × Int × Int := madeR (decide (z < 0)) z.natAbs sc
theorem madeR_zero (neg : Bool) (sc : Int) : madeR neg 0 sc = madeR false 0 sc := by
  unfold madeR
  cases neg <;> simp
theorem madeR_sv (neg : Bool) (n : Nat) (sc : Int) : madeR neg n sc = madeZ (sv neg n) sc := by
  unfold madeZ
  cases neg with
  | false =>
    rw [sv_false, decide_eq_false (by omega), Int.natAbs_natCast]
  | true =>
    rw [sv_true, Int.natAbs_neg, Int.natAbs_natCast]
    by_cases h : n = 0
    · subst h
      rw [madeR_zero]
      rfl
    · rw [decide_eq_true (by omega)]
def cmpZ (a b : Int) : Int := if a < b then -1 else if b < a then 1 else 0
theorem sv_add (n : Bool) (x y : Nat) : sv n x + sv n y = sv n (x + y) := by
  cases n
  · simp only [sv_false]; omega
  · simp only [sv_true]; omega
theorem sv_sub {n1 n2 : Bool} (h : n1 ≠ n2) {x y : Nat} (hle : y ≤ x) : sv n1 x + sv n2 y = sv n1 (x - y) := by
  cases n1 <;> cases n2 <;> first | exact absurd rfl h | skip
  · simp only [sv_false, sv_true]; omega
  · simp only [sv_false, sv_true]; omega
theorem sv_sub' {n1 n2 : Bool} (h : n1 ≠ n2) {x y : Nat} (hle : x ≤ y) : sv n1 x + sv n2 y = sv n2 (y - x) := by
  rw [Int.add_comm]
  exact sv_sub (Ne.symm h) hle
/-- The sign of a number. -/
def sgnN (neg : Bool) (n : Nat) : Int := if n = 0 then 0 else if neg = true then -1 else 1
theorem sgnN_mul (neg : Bool) (n k : Nat) : sgnN neg (n * 10 ^ k) = sgnN neg n := by
  have hp : 0 < 10 ^ k := Nat.pow_pos (by decide)
  have e : (n * 10 ^ k = 0) ↔ n = 0 := by
    constructor
    · intro h
      rcases Nat.mul_eq_zero.1 h with h | h
      · exact h
      · omega
    · rintro rfl
      exact Nat.zero_mul _
  unfold sgnN
  by_cases h : n = 0
  · rw [if_pos (e.2 h), if_pos h]
  · rw [if_neg (fun g => h (e.1 g)), if_neg h]
theorem cmp_signs {n1 n2 : Bool} {x y : Nat} (h : sgnN n1 x ≠ sgnN n2 y) : cmpZ (sv n1 x) (sv n2 y) = min 1 (max (-1) (sgnN n1 x - sgnN n2 y)) := by
  revert h
  unfold cmpZ sgnN
  cases n1 <;> cases n2 <;> simp only [sv_false, sv_true] <;> by_cases hx : x = 0 <;> by_cases hy : y = 0 <;> simp [hx, hy] <;> omega
theorem cmp_neg {n2 : Bool} {x y : Nat} (h1 : x ≠ 0) (h : sgnN true x = sgnN n2 y) : cmpZ (sv true x) (sv n2 y) = -cmpN x y := by
  revert h
  unfold cmpZ cmpN sgnN
  cases n2 <;> simp only [sv_false, sv_true] <;> by_cases hy : y = 0 <;> simp [h1, hy] <;> by_cases g1 : x < y <;> by_cases g2 : y < x <;> simp [g1, g2] <;> omega
theorem cmp_pos {n2 : Bool} {x y : Nat} (h : sgnN false x = sgnN n2 y) : cmpZ (sv false x) (sv n2 y) = cmpN x y := by
  revert h
  unfold cmpZ cmpN sgnN
  cases n2 <;> simp only [sv_false, sv_true] <;> by_cases hx : x = 0 <;> by_cases hy : y = 0 <;> simp [hx, hy] <;> by_cases g1 : x < y <;> by_cases g2 : y < x <;> simp [g1, g2] <;> omega
end Go.Proofs.YtgccppilhbannaaDoor
