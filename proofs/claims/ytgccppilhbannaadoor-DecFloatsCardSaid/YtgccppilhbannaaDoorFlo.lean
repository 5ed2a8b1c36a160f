/-
  The walks of math.IsNaN, math.IsInf over a float's bits.
-/
import Derived.Test.YtgccppilhbannaaDoorHalved
import Derived.Laws.BitsAllLaws
namespace Go.Proofs.YtgccppilhbannaaDoor
open Go.RowKit Go.PlainAid

/-- The exponent's field and the fraction's field. -/
def fexp (u : Nat) : Nat := u / 4503599627370496 % 2048
def ffr (u : Nat) : Nat := u % 4503599627370496
def fneg (u : Nat) : Bool := u / 9223372036854775808 % 2 == 1
theorem read_num {u : Nat} (h : fexp u < 2047) : ∃ m p, Ieee.double.read u = .number (fneg u) m p ∧ m < 9007199254740992 ∧ p ≤ 971 := by
  unfold fexp at h
  by_cases h0 : u % 9223372036854775808 < 4503599627370496
  · refine ⟨u % 9223372036854775808, -1074, ?_, by omega, by omega⟩
    unfold Ieee.Format.read
    rw [if_pos (by exact h0)]
    rfl
  · refine ⟨4503599627370496 + u % 9223372036854775808 % 4503599627370496, -1074 + ((u % 9223372036854775808 / 4503599627370496 - 1 : Nat) : Int), ?_, by omega, by omega⟩
    unfold Ieee.Format.read
    rw [if_neg (by exact h0), if_pos (by show u % 9223372036854775808 < 9218868437227405312; omega)]
    rfl
theorem read_inf {u : Nat} (h : fexp u = 2047) (h0 : ffr u = 0) : Ieee.double.read u = .infinity (fneg u) := by
  unfold fexp at h; unfold ffr at h0
  unfold Ieee.Format.read
  rw [if_neg (by show ¬ u % 9223372036854775808 < 4503599627370496; omega), if_neg (by show ¬ u % 9223372036854775808 < 9218868437227405312; omega), if_pos (by show u % 9223372036854775808 = 9218868437227405312; omega)]
  rfl
theorem read_nan {u : Nat} (h : fexp u = 2047) (h0 : ffr u ≠ 0) : ∃ k, Ieee.double.read u = .nan (fneg u) k := by
  unfold fexp at h; unfold ffr at h0
  refine ⟨u % 9223372036854775808 - 9218868437227405312, ?_⟩
  unfold Ieee.Format.read
  rw [if_neg (by show ¬ u % 9223372036854775808 < 4503599627370496; omega), if_neg (by show ¬ u % 9223372036854775808 < 9218868437227405312; omega), if_neg (by show ¬ u % 9223372036854775808 = 9218868437227405312; omega)]
  rfl
theorem fexp_le (u : Nat) : fexp u ≤ 2047 := by unfold fexp; omega
theorem order_nan {u v : Nat} (h : fexp u = 2047) (h0 : ffr u ≠ 0) : Ieee.double.order u v = none := by
  obtain ⟨k, hk⟩ := read_nan h h0
  unfold Ieee.Format.order
  rw [hk]
  rfl
theorem compare_self (a : Int) : compare a a = .eq := by simp [compare, compareOfLessAndEq]
theorem order_self {u : Nat} (h : ¬ (fexp u = 2047 ∧ ffr u ≠ 0)) : Ieee.double.order u u = some .eq := by
  have hl := fexp_le u
  unfold Ieee.Format.order
  by_cases h1 : fexp u < 2047
  · obtain ⟨m, p, hr, _, _⟩ := read_num h1
    rw [hr]
    show some (compare _ _) = _
    rw [compare_self]
  · have h2 : ffr u = 0 := by
      by_cases h3 : ffr u = 0
      · exact h3
      · exact absurd ⟨by omega, h3⟩ h
    rw [read_inf (by omega) h2]
    show some (compare _ _) = _
    simp [compare, compareOfLessAndEq]
theorem sub_inf {u : Nat} (h : fexp u = 2047) (h0 : ffr u = 0) : Ieee.double.sub u u = none := by
  unfold Ieee.Format.sub
  rw [read_inf h h0]
  cases fneg u <;> rfl
theorem signed_opp (s : Bool) (m k : Nat) : Ieee.signed s m k + Ieee.signed (!s) m k = 0 := by
  cases s
  · show ((m <<< k : Nat) : Int) + -((m <<< k : Nat) : Int) = 0
    omega
  · show -((m <<< k : Nat) : Int) + ((m <<< k : Nat) : Int) = 0
    omega
theorem sub_num {u : Nat} (h : fexp u < 2047) : Ieee.double.sub u u = some 0 := by
  obtain ⟨m, p, hr, _, _⟩ := read_num h
  unfold Ieee.Format.sub
  rw [hr]
  show (some (Ieee.Datum.number (if Ieee.signed (fneg u) m (p - min p p).toNat + Ieee.signed (!fneg u) m (p - min p p).toNat = 0 then fneg u && !fneg u else _) (Ieee.signed (fneg u) m (p - min p p).toNat + Ieee.signed (!fneg u) m (p - min p p).toNat).natAbs (min p p))).map _ = _
  rw [signed_opp]
  cases fneg u <;> rfl
theorem order_zero : Ieee.double.order 0 0 = some .eq := by decide +kernel
theorem nat_shl_zero (m : Nat) : m <<< 0 = m := by simp
theorem order_max {u : Nat} (h : fexp u < 2047) (hs : u < 9223372036854775808) : (Ieee.double.order u 9218868437227405311 == some .gt) = false := by
  obtain ⟨m, p, hr, hm, hp⟩ := read_num h
  have hn : fneg u = false := by unfold fneg; rw [show u / 9223372036854775808 = 0 by omega]; rfl
  have h2 : Ieee.double.read 9218868437227405311 = .number false 9007199254740991 971 := by decide +kernel
  unfold Ieee.Format.order
  rw [hr, hn, h2]
  show (some (compare (Ieee.signed false m (p - min p 971).toNat) (Ieee.signed false 9007199254740991 (971 - min p 971).toNat)) == some .gt) = false
  rw [show (p - min p 971).toNat = 0 by omega]
  have h3 : Ieee.signed false m 0 ≤ Ieee.signed false 9007199254740991 (971 - min p 971).toNat := by
    show ((m <<< 0 : Nat) : Int) ≤ ((9007199254740991 <<< _ : Nat) : Int)
    rw [nat_shl_zero, Nat.shiftLeft_eq]
    have h4 : 1 ≤ 2 ^ (971 - min p 971).toNat := Nat.one_le_two_pow
    have h5 := Nat.mul_le_mul_left 9007199254740991 h4
    omega
  have h6 : compare (Ieee.signed false m 0) (Ieee.signed false 9007199254740991 (971 - min p 971).toNat) ≠ .gt := by
    intro h7
    have h8 := Int.compare_eq_gt.1 h7
    omega
  generalize compare (Ieee.signed false m 0) (Ieee.signed false 9007199254740991 (971 - min p 971).toNat) = c at h6
  cases c
  · rfl
  · rfl
  · exact absurd rfl h6
theorem order_inf : Ieee.double.order 9218868437227405312 9218868437227405311 = some .gt := by decide +kernel
/-- Without its sign. -/
theorem abs_parts {u : Nat} : fexp (u % 9223372036854775808) = fexp u ∧ ffr (u % 9223372036854775808) = ffr u := by
  unfold fexp ffr
  omega
theorem and_sign (u : Nat) (hu : u < 18446744073709551616) : bits .andNot .u64 (u : Int) 9223372036854775808 = ((u % 9223372036854775808 : Nat) : Int) := by
  have h := u64_andNot_nat u 9223372036854775808 hu (by decide)
  rw [show (18446744073709551615 - 9223372036854775808 : Nat) = 2 ^ 63 - 1 from rfl, Nat.and_two_pow_sub_one_eq_mod] at h
  exact h
theorem and_exp (a : Nat) (ha : a < 4096) : bits .and .u64 (a : Int) 2047 = ((a % 2048 : Nat) : Int) := by
  have h := u64_and_nat a 2047 (by omega) (by decide)
  rw [show (2047 : Nat) = 2 ^ 11 - 1 from rfl, Nat.and_two_pow_sub_one_eq_mod] at h
  exact h
theorem and_frac (u : Nat) (hu : u < 18446744073709551616) : bits .and .u64 (u : Int) 4503599627370495 = ((u % 4503599627370496 : Nat) : Int) := by
  have h := u64_and_nat u 4503599627370495 hu (by decide)
  rw [show (4503599627370495 : Nat) = 2 ^ 52 - 1 from rfl, Nat.and_two_pow_sub_one_eq_mod] at h
  exact h
theorem or_one (f : Nat) (hf : f < 4503599627370496) : bits .or .u64 (f : Int) 4503599627370496 = ((f + 4503599627370496 : Nat) : Int) := by
  have h := u64_or_nat f 4503599627370496 (by omega) (by decide)
  refine h.trans (congrArg _ ?_)
  rw [Nat.or_comm, show (4503599627370496 : Nat) = 2 ^ 52 * 1 from rfl, ← Nat.two_pow_add_eq_or_of_lt hf, Nat.add_comm]
end Go.Proofs.YtgccppilhbannaaDoor
namespace Go.Proofs.YtgccppilhbannaaDoor
open Go.RowKit Go.PlainAid

set_option maxRecDepth 100000 in
set_option maxHeartbeats 1000000 in
theorem isNaN_any (u : Nat) (b : Bool) (hb : (Ieee.double.order u u != some .eq) = b) (w : World) :
    Calls Tryd.prog 68 #[.float .f64 u] w fun e w' => e = .returned (.bool b) ∧ w' = w := by
  go_enter Tryd.func68, Tryd.ntmps68
  go_wp2_with fail
  go_ret
  exact ⟨congrArg (fun b => Ending.returned (.bool b)) hb, rfl⟩
theorem toBits (u : Nat) (W : World) : (callFunc 70 #[.float .f64 u]).run Tryd.prog W = .ok (.value (.int .u64 (u : Int))) W := by
  have h := run_callFunc_extern (P := Tryd.prog) Tryd.func70 (by kernel_rfl) (by kernel_rfl) (by kernel_rfl) (e := Extern.MathFloatBits.float64bits) (by kernel_rfl) #[.float .f64 u] W
  rw [h]
  rfl
theorem fromBits (u : Nat) (W : World) : (callFunc 41 #[.int .u64 (u : Int)]).run Tryd.prog W = .ok (.value (.float .f64 u)) W := by
  have h := run_callFunc_extern (P := Tryd.prog) Tryd.func41 (by kernel_rfl) (by kernel_rfl) (by kernel_rfl) (e := Extern.MathFloatBits.float64frombits) (by kernel_rfl) #[.int .u64 (u : Int)] W
  rw [h]
  rfl
set_option maxRecDepth 100000 in
set_option maxHeartbeats 1000000 in
theorem abs_any (u v : Nat) (q2 : bits .andNot .u64 (u : Int) 9223372036854775808 = (v : Int)) (w : World) :
    Calls Tryd.prog 92 #[.float .f64 u] w fun e w' => e = .returned (.float .f64 v) ∧ w' = w := by
  have q3 := toBits u; have q4 := fromBits v
  go_enter Tryd.func92, Tryd.ntmps92
  go_wp2_with fail
  go_ret
  exact ⟨rfl, rfl⟩
set_option maxRecDepth 100000 in
set_option maxHeartbeats 1000000 in
theorem isInf_any (u : Nat) (hu : u < 18446744073709551616) (b : Bool) (hb : (Ieee.double.order (u % 9223372036854775808) 9218868437227405311 == some .gt) = b) (w : World) :
    Calls Tryd.prog 69 #[.float .f64 u, .int .i64 0] w fun e w' => e = .returned (.bool b) ∧ w' = w := by
  obtain ⟨v, hv⟩ : ∃ v, u % 9223372036854775808 = v := ⟨_, rfl⟩
  rw [hv] at hb
  have q2 := and_sign u hu
  rw [hv] at q2
  have hab := fun W => abs_any u v q2 W
  clear q2
  go_enter Tryd.func69, Tryd.ntmps69
  go_wp2_with fail
  refine (hab _).mono ?_
  rintro e w1 ⟨rfl, rfl⟩
  go_wp2_with fail
  go_ret
  exact ⟨congrArg (fun b => Ending.returned (.bool b)) hb, rfl⟩
end Go.Proofs.YtgccppilhbannaaDoor
