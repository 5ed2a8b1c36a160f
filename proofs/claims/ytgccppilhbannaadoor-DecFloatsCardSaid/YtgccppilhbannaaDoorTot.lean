/-
  Sums, differences, products of any two decimals, right or not, as functions; what they come to as whole numbers at a scale.
-/
import Derived.Test.YtgccppilhbannaaDoorMulW
namespace Go.Proofs.YtgccppilhbannaaDoor
open Go.RowKit Go.PlainAid

theorem digs_right {neg : Bool} {n : Nat} {k : Int} (h1 : (digs n).size ≤ 400) (h2 : 0 ≤ k) (h3 : k ≤ 400) : rightB (neg && n != 0) (digs n) k = true := by
  refine right_yes (digs_pos n) h1 h2 h3 (fun g => ?_) (digs_dig n)
  obtain ⟨g1, g2⟩ := g
  have hc := lowD_canon n
  have hsz : (digs n).size = (lowD n).length := by unfold digs; rw [textL_size, List.length_reverse]
  have hlast := low_get (digs_dig n) 0 ((lowD n).length - 1) (digs_pos n) (by have := digs_pos n; omega)
  have hlow : low (digs n) = lowD n := by
    unfold low digs
    rw [dl_textL _ (fun d hd => hc.2.1 d (by simpa using hd)), List.reverse_reverse]
  rw [hlow] at hlast
  have hz : (lowD n).getD ((lowD n).length - 1) 0 = 0 := by omega
  rcases g2 with g2 | g2
  · have h4 := hc.2.2 (by omega)
    apply h4
    rw [List.getLast?_eq_getElem?]
    rw [List.getD_eq_getElem?_getD, List.getElem?_eq_getElem (by omega)] at hz
    rw [List.getElem?_eq_getElem (by omega)]
    exact congrArg some hz
  · have hn : n ≠ 0 := by
      intro e
      subst e
      cases neg <;> simp at g2
    by_cases hl : 1 < (digs n).size
    · have h4 := hc.2.2 (by omega)
      apply h4
      rw [List.getLast?_eq_getElem?]
      rw [List.getD_eq_getElem?_getD, List.getElem?_eq_getElem (by omega)] at hz
      rw [List.getElem?_eq_getElem (by omega)]
      exact congrArg some hz
    · have hv := rowval_lowD n
      have hp := digs_pos n
      match hll : lowD n with
      | [] =>
        have h0 : (digs n).size = 0 := by rw [hsz, hll]; rfl
        omega
      | [d] =>
        rw [hll] at hz hv
        have hd : d = 0 := hz
        have hv2 : d + 10 * 0 = n := hv
        omega
      | a :: b :: l =>
        have h0 : (digs n).size = l.length + 2 := by rw [hsz, hll]; rfl
        omega

/-- A right decimal is a whole number at a scale. -/
def Is (n : Bool) (d : ByteArray) (k : Nat) (z : Int) : Prop := rightB n d k = true ∧ sv n (dval d) = z
theorem madeZ_is {z : Int} {K : Nat} (h : (madeZ z K).2.2.2 = 0) : ∃ n d, madeZ z K = (n, d, (K : Int), 0) ∧ Is n d K z := by
  unfold madeZ madeR at h ⊢
  by_cases hc : 400 < (digs z.natAbs).size ∨ 400 < (K : Int)
  · rw [if_pos hc] at h
    cases h
  · rw [if_neg hc]
    refine ⟨_, _, rfl, digs_right (by omega) (by omega) (by omega), ?_⟩
    rw [dval_digs]
    by_cases hz : z < 0
    · rw [decide_eq_true hz, show (z.natAbs != 0) = true by simp; omega]
      simp only [Bool.and_self, sv_true]
      omega
    · rw [decide_eq_false hz]
      simp only [Bool.false_and, sv_false]
      omega
theorem sv_mul (n : Bool) (x y : Nat) : sv n (x * y) = sv n x * (y : Int) := by
  cases n
  · simp only [sv_false]; push_cast; rfl
  · simp only [sv_true]; push_cast; rw [Int.neg_mul]

def badD : Bool × ByteArray × Int × Int := (false, ⟨#[]⟩, 0, 2)
/-- The sum, the difference, the product of whatever two decimals; how they compare. -/
def addT (n1 : Bool) (d1 : ByteArray) (k1 : Int) (n2 : Bool) (d2 : ByteArray) (k2 : Int) : Bool × ByteArray × Int × Int :=
  if rightB n1 d1 k1 = true ∧ rightB n2 d2 k2 = true then addR n1 d1 k1.toNat n2 d2 k2.toNat else badD
def subT (n1 : Bool) (d1 : ByteArray) (k1 : Int) (n2 : Bool) (d2 : ByteArray) (k2 : Int) : Bool × ByteArray × Int × Int :=
  if rightB n1 d1 k1 = true ∧ rightB n2 d2 k2 = true then addR n1 d1 k1.toNat (turnB n2 d2) d2 k2.toNat else badD
def mulT (n1 : Bool) (d1 : ByteArray) (k1 : Int) (n2 : Bool) (d2 : ByteArray) (k2 : Int) : Bool × ByteArray × Int × Int :=
  if rightB n1 d1 k1 = true ∧ rightB n2 d2 k2 = true then mulR n1 d1 k1.toNat n2 d2 k2.toNat else badD
theorem not_both {a b : Bool} (h : ¬ (a = true ∧ b = true)) : a = false ∨ b = false := by
  cases a <;> cases b <;> simp at h ⊢
theorem right_nat {n : Bool} {d : ByteArray} {k : Int} (h : rightB n d k = true) : ((k.toNat : Nat) : Int) = k := by
  obtain ⟨_, _, h3, _⟩ := of_decide_eq_true h
  omega
theorem add_tot (n1 : Bool) (d1 : ByteArray) (k1 : Int) (n2 : Bool) (d2 : ByteArray) (k2 : Int) (w : World) :
    Calls Tryd.prog 27 #[.agg #[.bool n1, .string d1, .int .i64 k1], .agg #[.bool n2, .string d2, .int .i64 k2]] w fun e w' => e = .returned (decE (addT n1 d1 k1 n2 d2 k2)) ∧ Below w.heap.size w w' := by
  unfold addT
  by_cases h : rightB n1 d1 k1 = true ∧ rightB n2 d2 k2 = true
  · rw [if_pos h]
    have e1 := right_nat h.1
    have e2 := right_nat h.2
    obtain ⟨a, ha⟩ : ∃ a, k1.toNat = a := ⟨_, rfl⟩
    obtain ⟨b, hb⟩ : ∃ b, k2.toNat = b := ⟨_, rfl⟩
    rw [ha] at e1 ⊢
    rw [hb] at e2 ⊢
    subst e1
    subst e2
    exact add_yes h.1 h.2 w
  · rw [if_neg h]
    exact add_no (not_both h) w
theorem sub_tot (n1 : Bool) (d1 : ByteArray) (k1 : Int) (n2 : Bool) (d2 : ByteArray) (k2 : Int) (w : World) :
    Calls Tryd.prog 28 #[.agg #[.bool n1, .string d1, .int .i64 k1], .agg #[.bool n2, .string d2, .int .i64 k2]] w fun e w' => e = .returned (decE (subT n1 d1 k1 n2 d2 k2)) ∧ Below w.heap.size w w' := by
  unfold subT
  by_cases h : rightB n1 d1 k1 = true ∧ rightB n2 d2 k2 = true
  · rw [if_pos h]
    have e1 := right_nat h.1
    have e2 := right_nat h.2
    obtain ⟨a, ha⟩ : ∃ a, k1.toNat = a := ⟨_, rfl⟩
    obtain ⟨b, hb⟩ : ∃ b, k2.toNat = b := ⟨_, rfl⟩
    rw [ha] at e1 ⊢
    rw [hb] at e2 ⊢
    subst e1
    subst e2
    exact sub_yes h.1 h.2 w
  · rw [if_neg h]
    exact sub_no (not_both h) w
theorem mul_tot (n1 : Bool) (d1 : ByteArray) (k1 : Int) (n2 : Bool) (d2 : ByteArray) (k2 : Int) (w : World) :
    Calls Tryd.prog 29 #[.agg #[.bool n1, .string d1, .int .i64 k1], .agg #[.bool n2, .string d2, .int .i64 k2]] w fun e w' => e = .returned (decE (mulT n1 d1 k1 n2 d2 k2)) ∧ Below w.heap.size w w' := by
  unfold mulT
  by_cases h : rightB n1 d1 k1 = true ∧ rightB n2 d2 k2 = true
  · rw [if_pos h]
    have e1 := right_nat h.1
    have e2 := right_nat h.2
    obtain ⟨a, ha⟩ : ∃ a, k1.toNat = a := ⟨_, rfl⟩
    obtain ⟨b, hb⟩ : ∃ b, k2.toNat = b := ⟨_, rfl⟩
    rw [ha] at e1 ⊢
    rw [hb] at e2 ⊢
    subst e1
    subst e2
    exact mul_yes h.1 h.2 w
  · rw [if_neg h]
    exact mul_no (not_both h) w

theorem badD_err : badD.2.2.2 = 2 := rfl
theorem addT_right {n1 : Bool} {d1 : ByteArray} {k1 : Int} {n2 : Bool} {d2 : ByteArray} {k2 : Int} (h : (addT n1 d1 k1 n2 d2 k2).2.2.2 = 0) : rightB n1 d1 k1 = true ∧ rightB n2 d2 k2 = true := by
  unfold addT at h
  by_cases hc : rightB n1 d1 k1 = true ∧ rightB n2 d2 k2 = true
  · exact hc
  · rw [if_neg hc, badD_err] at h
    cases h
theorem addT_is {n1 : Bool} {d1 : ByteArray} {k1 : Nat} {n2 : Bool} {d2 : ByteArray} {k2 : Nat} {z1 z2 : Int} (h1 : Is n1 d1 k1 z1) (h2 : Is n2 d2 k2 z2) :
    addT n1 d1 k1 n2 d2 k2 = madeZ (z1 * 10 ^ (max k1 k2 - k1) + z2 * 10 ^ (max k1 k2 - k2)) ((max k1 k2 : Nat) : Int) := by
  unfold addT
  rw [if_pos ⟨h1.1, h2.1⟩]
  unfold addR
  rw [Int.toNat_natCast, Int.toNat_natCast, sv_mul, sv_mul, h1.2, h2.2]
  push_cast
  rfl
theorem turn_is {n : Bool} {d : ByteArray} {k : Nat} {z : Int} (h : Is n d k z) : Is (turnB n d) d k (-z) := by
  refine ⟨right_turn h.1, ?_⟩
  have hz := right_zero h.1
  have h2 := h.2
  rw [← h2]
  unfold turnB
  rw [hz]
  by_cases h0 : dval d = 0
  · rw [h0]; cases n <;> simp [sv]
  · rw [decide_eq_false h0]; cases n <;> simp [sv]
theorem subT_is {n1 : Bool} {d1 : ByteArray} {k1 : Nat} {n2 : Bool} {d2 : ByteArray} {k2 : Nat} {z1 z2 : Int} (h1 : Is n1 d1 k1 z1) (h2 : Is n2 d2 k2 z2) :
    subT n1 d1 k1 n2 d2 k2 = madeZ (z1 * 10 ^ (max k1 k2 - k1) + -z2 * 10 ^ (max k1 k2 - k2)) ((max k1 k2 : Nat) : Int) := by
  have h3 := addT_is h1 (turn_is h2)
  rw [← h3]
  unfold subT addT
  rw [if_pos ⟨h1.1, h2.1⟩, if_pos ⟨h1.1, (turn_is h2).1⟩]
theorem mulT_is {n1 : Bool} {d1 : ByteArray} {k1 : Nat} {n2 : Bool} {d2 : ByteArray} {k2 : Nat} {z1 z2 : Int} (h1 : Is n1 d1 k1 z1) (h2 : Is n2 d2 k2 z2) :
    mulT n1 d1 k1 n2 d2 k2 = madeZ (z1 * z2) ((k1 + k2 : Nat) : Int) := by
  unfold mulT
  rw [if_pos ⟨h1.1, h2.1⟩]
  unfold mulR
  rw [Int.toNat_natCast, Int.toNat_natCast, madeR_sv, ← h1.2, ← h2.2]
  have e : sv (n1 != n2) (dval d1 * dval d2) = sv n1 (dval d1) * sv n2 (dval d2) := by
    cases n1 <;> cases n2 <;> simp [sv, Int.neg_mul, Int.mul_neg]
  rw [e]
  push_cast
  rfl
theorem mulT_comm (n1 : Bool) (d1 : ByteArray) (k1 : Int) (n2 : Bool) (d2 : ByteArray) (k2 : Int) : mulT n1 d1 k1 n2 d2 k2 = mulT n2 d2 k2 n1 d1 k1 := by
  unfold mulT
  by_cases hc : rightB n1 d1 k1 = true ∧ rightB n2 d2 k2 = true
  · rw [if_pos hc, if_pos ⟨hc.2, hc.1⟩]
    unfold mulR
    have e1 : (n1 != n2) = (n2 != n1) := by cases n1 <;> cases n2 <;> rfl
    rw [e1, Nat.mul_comm (dval d1), Int.add_comm ((k1.toNat : Nat) : Int)]
  · rw [if_neg hc, if_neg (fun g => hc ⟨g.2, g.1⟩)]
theorem cmp_is {n1 : Bool} {d1 : ByteArray} {k1 : Nat} {n2 : Bool} {d2 : ByteArray} {k2 : Nat} {z1 z2 : Int} (h1 : Is n1 d1 k1 z1) (h2 : Is n2 d2 k2 z2) :
    cmpD n1 d1 k1 n2 d2 k2 = cmpZ (z1 * 10 ^ (max k1 k2 - k1)) (z2 * 10 ^ (max k1 k2 - k2)) := by
  unfold cmpD
  rw [sv_mul, sv_mul, h1.2, h2.2]
  push_cast
  rfl
theorem cmpZ_self (a : Int) : cmpZ a a = 0 := by
  unfold cmpZ
  rw [if_neg (by omega), if_neg (by omega)]
theorem pow_up {a b c : Nat} (h1 : a ≤ b) (h2 : b ≤ c) : (10 : Int) ^ (b - a) * 10 ^ (c - b) = 10 ^ (c - a) := by
  rw [← Int.pow_add]
  congr 1
  omega
end Go.Proofs.YtgccppilhbannaaDoor
