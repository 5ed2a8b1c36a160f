/-
  Plain: a rounded number is the next neighbour.
-/
import Derived.Test.YtgccppilhbannaaDoorTot
import Derived.Test.YtgccppilhbannaaDoorRound
namespace Go.Proofs.YtgccppilhbannaaDoor
open Go.RowKit Go.PlainAid

theorem up_cases {neg odd : Bool} {r H c : Nat} {mode : Int} (hH : 5 * 10 ^ (c - 1) = H) (h0 : 0 < H) {u : Bool} (hu : upB neg odd r c mode = u) :
    (u = true → r ≠ 0) ∧ (mode = 1 ∨ mode = 2 → (u = true → H ≤ r) ∧ (u = false → r ≤ H)) ∧ (mode = 5 → (neg = false → u = false) ∧ (neg = true → u = false → r = 0)) ∧ (mode = 6 → (neg = true → u = false) ∧ (neg = false → u = false → r = 0)) := by
  unfold upB at hu
  rw [hH] at hu
  by_cases m1 : mode = 1
  · rw [if_pos m1] at hu
    cases u with
    | true =>
      have h : H ≤ r := by
        rcases Bool.or_eq_true_iff.1 hu with g | g
        · have := of_decide_eq_true g; omega
        · have := of_decide_eq_true (Bool.and_eq_true_iff.1 g).1; omega
      exact ⟨fun _ => by omega, fun _ => ⟨fun _ => h, fun e => by cases e⟩, fun e => by omega, fun e => by omega⟩
    | false =>
      have h : ¬ H < r := of_decide_eq_false (Bool.or_eq_false_iff.1 hu).1
      exact ⟨(fun e => by cases e), fun _ => ⟨(fun e => by cases e), fun _ => by omega⟩, fun e => by omega, fun e => by omega⟩
  rw [if_neg m1] at hu
  by_cases m2 : mode = 2
  · rw [if_pos m2] at hu
    cases u with
    | true =>
      have h : H ≤ r := of_decide_eq_true hu
      exact ⟨fun _ => by omega, fun _ => ⟨fun _ => h, fun e => by cases e⟩, fun e => by omega, fun e => by omega⟩
    | false =>
      have h : ¬ H ≤ r := of_decide_eq_false hu
      exact ⟨(fun e => by cases e), fun _ => ⟨(fun e => by cases e), fun _ => by omega⟩, fun e => by omega, fun e => by omega⟩
  rw [if_neg m2] at hu
  have h12 : mode = 1 ∨ mode = 2 → (u = true → H ≤ r) ∧ (u = false → r ≤ H) := fun e => absurd e (by omega)
  by_cases m4 : mode = 4
  · rw [if_pos m4] at hu
    exact ⟨fun e => by rw [e] at hu; exact of_decide_eq_true hu, h12, fun e => by omega, fun e => by omega⟩
  rw [if_neg m4] at hu
  by_cases m5 : mode = 5
  · rw [if_pos m5] at hu
    refine ⟨fun e => by rw [e] at hu; exact of_decide_eq_true (Bool.and_eq_true_iff.1 hu).1, h12, fun _ => ⟨fun e => by rw [← hu, e]; simp, fun e f => ?_⟩, fun e => by omega⟩
    rw [f, e, Bool.and_true] at hu
    have := of_decide_eq_false hu
    omega
  rw [if_neg m5] at hu
  by_cases m6 : mode = 6
  · rw [if_pos m6] at hu
    refine ⟨fun e => by rw [e] at hu; exact of_decide_eq_true (Bool.and_eq_true_iff.1 hu).1, h12, fun e => by omega, fun _ => ⟨fun e => by rw [← hu, e]; simp, fun e f => ?_⟩⟩
    rw [f, e] at hu
    have := of_decide_eq_false (p := r ≠ 0) (by simpa using hu)
    omega
  rw [if_neg m6] at hu
  exact ⟨fun e => (by rw [← hu] at e; exact absurd e (by decide)), h12, fun e => absurd e m5, fun e => absurd e m6⟩

/-- How far a rounded number is from what it was. -/
theorem near_core (neg : Bool) (n c : Nat) (mode : Int) (hc : 1 ≤ c) :
    ∃ g : Int, sv neg (roundN neg n c mode) * 10 ^ c + -sv neg n = g ∧ -(10 ^ c) < g ∧ g < 10 ^ c ∧ (mode = 1 ∨ mode = 2 → 2 * g ≤ 10 ^ c ∧ -(2 * g) ≤ 10 ^ c) ∧ (mode = 5 → g ≤ 0) ∧ (mode = 6 → 0 ≤ g) := by
  refine ⟨_, rfl, ?_⟩
  have hP : (10 : Nat) ^ c = 10 * 10 ^ (c - 1) := by
    rw [← Nat.pow_succ', show (c - 1).succ = c by omega]
  obtain ⟨H1, hH1⟩ : ∃ H, (10 : Nat) ^ (c - 1) = H := ⟨_, rfl⟩
  have h1 : 0 < H1 := by rw [← hH1]; exact Nat.pow_pos (by decide)
  obtain ⟨P, hPe⟩ : ∃ P, (10 : Nat) ^ c = P := ⟨_, rfl⟩
  have hPi : (10 : Int) ^ c = (P : Int) := by rw [← hPe]; push_cast; rfl
  rw [hPe, hH1] at hP
  have hdm := Nat.div_add_mod n P
  have hml := Nat.mod_lt n (show 0 < P by omega)
  unfold roundN
  rw [hPi, hPe]
  obtain ⟨u, hu⟩ : ∃ u, upB neg (decide (n / P % 2 = 1)) (n % P) c mode = u := ⟨_, rfl⟩
  obtain ⟨g1, g2, g3, g4⟩ := up_cases (H := 5 * H1) (by rw [hH1]) (by omega) hu
  rw [hu]
  obtain ⟨q, hq⟩ : ∃ q, n / P = q := ⟨_, rfl⟩
  obtain ⟨r, hr⟩ : ∃ r, n % P = r := ⟨_, rfl⟩
  rw [hq, hr] at hdm
  rw [hr] at hml g1 g2 g3 g4
  rw [hq]
  obtain ⟨X, hX⟩ : ∃ X, P * q = X := ⟨_, rfl⟩
  rw [hX] at hdm
  have e0 : ((q : Nat) : Int) * (P : Int) = (X : Int) := by rw [← hX]; push_cast; rw [Int.mul_comm]
  have e1 : (((q + 1 : Nat) : Nat) : Int) * (P : Int) = (X : Int) + P := by push_cast; rw [Int.add_mul, Int.one_mul, e0]
  clear hu hPe hH1 hPi hq hr hX
  cases u with
  | true =>
    rw [if_pos rfl]
    have g1 := g1 rfl
    cases neg with
    | true =>
      simp only [sv_true]
      rw [Int.neg_mul, e1]
      refine ⟨by omega, by omega, fun e => ?_, fun _ => by omega, fun e => ?_⟩
      · have := (g2 e).1 rfl; omega
      · have := (g4 e).1 rfl; cases this
    | false =>
      simp only [sv_false]
      rw [e1]
      refine ⟨by omega, by omega, fun e => ?_, fun e => ?_, fun _ => by omega⟩
      · have := (g2 e).1 rfl; omega
      · have := (g3 e).1 rfl; cases this
  | false =>
    rw [if_neg (by decide), Nat.add_zero]
    cases neg with
    | true =>
      simp only [sv_true]
      rw [Int.neg_mul, e0]
      refine ⟨by omega, by omega, fun e => ?_, fun e => ?_, fun _ => by omega⟩
      · have := (g2 e).2 rfl; omega
      · have := (g3 e).2 rfl rfl; omega
    | false =>
      simp only [sv_false]
      rw [e0]
      refine ⟨by omega, by omega, fun e => ?_, fun _ => by omega, fun e => ?_⟩
      · have := (g2 e).2 rfl; omega
      · have := (g4 e).2 rfl rfl; omega
end Go.Proofs.YtgccppilhbannaaDoor
