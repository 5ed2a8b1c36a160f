/-
  Rounding at any arguments; what a rounded decimal, its gap and their likes come to.
-/
import Derived.Test.YtgccppilhbannaaDoorNearP
namespace Go.Proofs.YtgccppilhbannaaDoor
open Go.RowKit Go.PlainAid

theorem cmpZ_lt {a b : Int} (h : a < b) : cmpZ a b = -1 := by unfold cmpZ; rw [if_pos h]
theorem cmpZ_le {a b : Int} (h : a ≤ b) : cmpZ a b ≤ 0 := by unfold cmpZ; split; omega; rw [if_neg (by omega)]; omega
theorem cmpZ_ge {a b : Int} (h : b ≤ a) : 0 ≤ cmpZ a b := by unfold cmpZ; rw [if_neg (by omega)]; split <;> omega
/-- What Round answers. -/
def roundT (n : Bool) (d : ByteArray) (k m mode : Int) : Bool × ByteArray × Int × Int :=
  if rightB n d k = true ∧ 0 ≤ m ∧ m ≤ 400 ∧ 1 ≤ mode ∧ mode ≤ 6 then (if k ≤ m then (n, d, k, 0) else madeR n (roundN n (dval d) (k.toNat - m.toNat) mode) m) else badD
theorem round_tot (n : Bool) (d : ByteArray) (k m mode : Int) (w : World) :
    Calls Tryd.prog 22 #[.agg #[.bool n, .string d, .int .i64 k], .int .i64 m, .int .i64 mode] w fun e w' => e = .returned (decE (roundT n d k m mode)) ∧ Below w.heap.size w w' := by
  unfold roundT
  by_cases hc : rightB n d k = true ∧ 0 ≤ m ∧ m ≤ 400 ∧ 1 ≤ mode ∧ mode ≤ 6
  · rw [if_pos hc]
    obtain ⟨hr, h0, h4, m1, m6⟩ := hc
    obtain ⟨_, _, h3, _⟩ := of_decide_eq_true hr
    obtain ⟨K, rfl⟩ : ∃ K : Nat, k = K := ⟨k.toNat, by omega⟩
    obtain ⟨M, rfl⟩ : ∃ M : Nat, m = M := ⟨m.toNat, by omega⟩
    rw [Int.toNat_natCast, Int.toNat_natCast]
    by_cases hk : (K : Int) ≤ M
    · rw [if_pos hk]
      exact round_same n d K M mode w hr (by omega) (by omega) m1 m6
    · rw [if_neg hk]
      exact round_cut n d K M mode w hr (by omega) m1 m6
  · rw [if_neg hc]
    by_cases h : rightB n d k = false ∨ m < 0 ∨ 400 < m
    · exact round_no n d k m mode w h
    · have hr : rightB n d k = true := by cases hq : rightB n d k with
        | true => rfl
        | false => exact absurd (.inl hq) h
      obtain ⟨_, _, h3, _⟩ := of_decide_eq_true hr
      obtain ⟨K, rfl⟩ : ∃ K : Nat, k = K := ⟨k.toNat, by omega⟩
      obtain ⟨M, rfl⟩ : ∃ M : Nat, m = M := ⟨m.toNat, by omega⟩
      by_cases m1 : mode < 1
      · exact round_mode1 n d K M mode w hr (by omega) m1
      · have m6 : 6 < mode := by
          apply Classical.byContradiction
          intro e
          exact hc ⟨hr, by omega, by omega, by omega, by omega⟩
        exact round_mode2 n d K M mode w hr (by omega) m6
theorem roundT_bad {n : Bool} {d : ByteArray} {k m mode : Int} {R : Bool × ByteArray × Int × Int} (hR : roundT n d k m mode = R) (h : R.2.2.2 ≠ 0) : R.1 = false ∧ R.2.1 = ⟨#[]⟩ ∧ R.2.2.1 = 0 := by
  subst hR
  unfold roundT at h ⊢
  by_cases hc : rightB n d k = true ∧ 0 ≤ m ∧ m ≤ 400 ∧ 1 ≤ mode ∧ mode ≤ 6
  · rw [if_pos hc] at h ⊢
    by_cases hk : k ≤ m
    · rw [if_pos hk] at h
      exact absurd rfl h
    · rw [if_neg hk] at h ⊢
      unfold madeR at h ⊢
      by_cases hg : 400 < (digs (roundN n (dval d) (k.toNat - m.toNat) mode)).size ∨ 400 < m
      · rw [if_pos hg]
        exact ⟨rfl, rfl, rfl⟩
      · rw [if_neg hg] at h
        exact absurd rfl h
  · rw [if_neg hc]
    exact ⟨rfl, rfl, rfl⟩
/-- A rounded decimal: what it is, and how far from the one that it was made of. -/
theorem near_facts {n : Bool} {d : ByteArray} {k m mode : Int} {R : Bool × ByteArray × Int × Int} (hR : roundT n d k m mode = R) (h : R.2.2.2 = 0) :
    ∃ (K M r : Nat) (zr zd g : Int), k = K ∧ m = M ∧ M ≤ 400 ∧ R.2.2.1 = r ∧ Is R.1 R.2.1 r zr ∧ Is n d K zd ∧ r ≤ K ∧ zr * 10 ^ (K - r) + -zd = g ∧ -(10 ^ (K - M)) < g ∧ g < 10 ^ (K - M) ∧ (mode = 1 ∨ mode = 2 → 2 * g ≤ 10 ^ (K - M) ∧ -(2 * g) ≤ 10 ^ (K - M)) ∧ (mode = 5 → g ≤ 0) ∧ (mode = 6 → 0 ≤ g) ∧ 1 ≤ mode ∧ mode ≤ 6 ∧ roundT R.1 R.2.1 R.2.2.1 m mode = R := by
  subst hR
  have hu := h
  unfold roundT at h
  by_cases hc : rightB n d k = true ∧ 0 ≤ m ∧ m ≤ 400 ∧ 1 ≤ mode ∧ mode ≤ 6
  · rw [if_pos hc] at h
    obtain ⟨hr, h0, h4, m1, m6⟩ := hc
    obtain ⟨_, _, h3, _⟩ := of_decide_eq_true hr
    obtain ⟨K, rfl⟩ : ∃ K : Nat, k = K := ⟨k.toNat, by omega⟩
    obtain ⟨M, rfl⟩ : ∃ M : Nat, m = M := ⟨m.toNat, by omega⟩
    rw [Int.toNat_natCast, Int.toNat_natCast] at h
    by_cases hk : (K : Int) ≤ M
    · have e : roundT n d K M mode = (n, d, (K : Int), 0) := by unfold roundT; rw [if_pos ⟨hr, h0, h4, m1, m6⟩, if_pos hk]
      have hkm : K - M = 0 := by omega
      rw [e]
      have e0 : (10 : Int) ^ 0 = 1 := rfl
      have e9 : (10 : Int) ^ (K - M) = 1 := by rw [hkm]; rfl
      exact ⟨K, M, K, _, _, 0, rfl, rfl, by omega, rfl, ⟨hr, rfl⟩, ⟨hr, rfl⟩, Nat.le_refl _, by rw [Nat.sub_self, e0, Int.mul_one]; exact Int.add_right_neg _, by rw [e9]; omega, by rw [e9]; omega, fun _ => by rw [e9]; omega, fun _ => by omega, fun _ => by omega, m1, m6, e⟩
    · rw [if_neg hk] at h
      have e : roundT n d K M mode = madeR n (roundN n (dval d) (K - M) mode) M := by unfold roundT; rw [if_pos ⟨hr, h0, h4, m1, m6⟩, if_neg hk, Int.toNat_natCast, Int.toNat_natCast]
      rw [madeR_sv] at h e
      obtain ⟨rn, rd, er, ir⟩ := madeZ_is h
      rw [er] at e
      obtain ⟨g, hg, b1, b2, b3, b4, b5⟩ := near_core n (dval d) (K - M) mode (by omega)
      have e2 : roundT rn rd M M mode = (rn, rd, (M : Int), 0) := by unfold roundT; rw [if_pos ⟨ir.1, h0, h4, m1, m6⟩, if_pos (by omega)]
      rw [e]
      exact ⟨K, M, M, _, _, g, rfl, rfl, by omega, rfl, ir, ⟨hr, rfl⟩, by omega, hg, b1, b2, b3, b4, b5, m1, m6, e2⟩
  · rw [if_neg hc, badD_err] at h
    cases h
theorem madeZ_err (z : Int) (K : Int) : (madeZ z K).2.2.2 = 0 ∨ (madeZ z K = (false, ⟨#[]⟩, 0, 3)) := by
  unfold madeZ madeR
  split
  · exact .inr rfl
  · exact .inl rfl
theorem sgn_is {n : Bool} {d : ByteArray} {k : Nat} {z : Int} (h : Is n d k z) : (sgnN n (dval d) < 0) ↔ z < 0 := by
  rw [← h.2]
  unfold sgnN sv
  by_cases h0 : dval d = 0
  · rw [if_pos h0, h0]; cases n <;> simp
  · rw [if_neg h0]
    cases n
    · simp
    · simp; omega
/-- The gap without its sign, its double: how they stand to the unit. -/
theorem gap_unit {an : Bool} {ad : ByteArray} {K M : Nat} {a : Int} (ha : Is an ad K a) (hu : Is false ⟨#[49]⟩ M 1) (h0 : 0 ≤ a) (h1 : a < 10 ^ (K - M)) : cmpD an ad K false ⟨#[49]⟩ M = -1 := by
  rw [cmp_is ha hu]
  apply cmpZ_lt
  by_cases hk : M ≤ K
  · rw [show max K M = K by omega, Nat.sub_self, Int.pow_zero, Int.mul_one, Int.one_mul]
    exact h1
  · rw [show K - M = 0 by omega, Int.pow_zero] at h1
    have e : a = 0 := by omega
    rw [e, Int.zero_mul, show max K M = M by omega, Nat.sub_self, Int.pow_zero]
    decide
theorem twice_unit {an : Bool} {ad : ByteArray} {K M : Nat} {a : Int} (ha : Is an ad K a) (hu : Is false ⟨#[49]⟩ M 1) (h1 : a ≤ 10 ^ (K - M)) (h2 : K ≤ M → a = 0) : cmpD an ad K false ⟨#[49]⟩ M ≤ 0 := by
  rw [cmp_is ha hu]
  apply cmpZ_le
  by_cases hk : M ≤ K
  · rw [show max K M = K by omega, Nat.sub_self, Int.pow_zero, Int.mul_one, Int.one_mul]
    exact h1
  · have e : a = 0 := h2 (by omega)
    rw [e, Int.zero_mul, show max K M = M by omega, Nat.sub_self, Int.pow_zero]
    decide
end Go.Proofs.YtgccppilhbannaaDoor
