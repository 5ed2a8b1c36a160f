/-
  Patterns of dates: what is read has no great size. No program in sight.
-/
import Derived.Test.YtbnhfjhhbgmhfaaDoorDpU
import Derived.Test.YtbnhfjhhbgmhfaaDoorDpF
namespace Go.Proofs.YtbnhfjhhbgmhfaaDoor
open Go.PlainAid

/-- Fields read from the first i bytes. -/
def PIn (i : Nat) (l : List PF) : Prop := l.length ≤ i ∧ ∀ x ∈ l, 0 ≤ x.1 ∧ x.1 ≤ 255 ∧ x.2.2.size ≤ i
theorem PIn.put {i j : Nat} {l : List PF} (h : PIn i l) {t : ByteArray} (ht : t.size + i ≤ j) (hij : i + 1 ≤ j) : PIn j (putR l t) := by
  refine ⟨by have := putR_length l t; have := h.1; omega, fun x hx => ?_⟩
  have hs := putR_size (fun x hx => (h.2 x hx).2.2) ht x hx
  rcases List.eq_nil_or_concat l with rfl | ⟨l', y, rfl⟩
  · rw [putR_nil] at hx
    simp at hx
    subst hx
    exact ⟨by omega, by omega, hs⟩
  · rw [List.concat_eq_append] at *
    obtain ⟨b, c, u⟩ := y
    have hy := h.2 (b, c, u) (by simp)
    simp only at hy
    by_cases hb : b = 0
    · subst hb
      rw [putR_text] at hx
      rcases List.mem_append.1 hx with hx | hx
      · have := h.2 x (List.mem_append.2 (.inl hx)); exact ⟨this.1, this.2.1, hs⟩
      · simp at hx
        subst hx
        exact ⟨by simp only; omega, by simp only; omega, hs⟩
    · rw [putR_letter hb] at hx
      rcases List.mem_append.1 hx with hx | hx
      · have := h.2 x hx; exact ⟨this.1, this.2.1, hs⟩
      · simp at hx
        subst hx
        exact ⟨by simp only; omega, by simp only; omega, hs⟩
theorem PIn.snoc {i j : Nat} {l : List PF} (h : PIn i l) {x : PF} (hx : 0 ≤ x.1 ∧ x.1 ≤ 255 ∧ x.2.2.size ≤ j) (hij : i + 1 ≤ j) : PIn j (l ++ [x]) := by
  refine ⟨by rw [List.length_append]; have := h.1; simp; omega, fun y hy => ?_⟩
  rcases List.mem_append.1 hy with hy | hy
  · have := h.2 y hy; exact ⟨this.1, this.2.1, by omega⟩
  · simp at hy; subst hy; exact hx
theorem pR_in (s : ByteArray) : ∀ (f i : Nat) (l : List PF), s.size - i = f → i ≤ s.size → PIn i l → PIn s.size (pR s i l).1
  | f, i, l, hf, hi, h => by
    by_cases hlt : i < s.size
    · rw [pR_step hlt]
      have hrm := runTo_more hlt
      have hre := (runTo_ge (s := s) (b := bt s i) _ i rfl).2 hi
      have hnil : PIn s.size ([] : List PF) := ⟨Nat.zero_le _, fun x hx => absurd hx (by simp)⟩
      by_cases hL : bLetter (bt s i) = true
      · rw [if_pos hL]
        split
        · exact hnil
        · exact pR_in s _ _ _ rfl hre (h.snoc ⟨bt_nonneg s i, bt_le s i, Nat.zero_le _⟩ hrm)
      · rw [if_neg hL]
        by_cases h39 : bt s i ≠ 39
        · rw [if_pos h39]
          exact pR_in s _ _ _ rfl (by omega) (h.put (by simp; omega) (by omega))
        · rw [if_neg h39]
          by_cases h2 : i + 1 < s.size ∧ bt s (i + 1) = 39
          · rw [if_pos h2]
            exact pR_in s _ _ _ rfl (by omega) (h.put (by show 1 + i ≤ i + 2; omega) (by omega))
          · rw [if_neg h2]
            cases hq : qR s (i + 1) ⟨#[]⟩ with
            | none => exact hnil
            | some x =>
              obtain ⟨t, j⟩ := x
              obtain ⟨j1, j2, j3, j4⟩ := qR_some _ _ _ _ _ rfl hq
              rw [show (⟨#[]⟩ : ByteArray).size = 0 from rfl] at j4
              exact pR_in s _ _ _ rfl j2 (h.put (by omega) (by omega))
    · rw [pR_end hlt]
      show PIn s.size l
      exact ⟨by have := h.1; omega, fun x hx => by have := h.2 x hx; exact ⟨this.1, this.2.1, by omega⟩⟩
  termination_by f => f
  decreasing_by all_goals omega
theorem dpParse_in (s : ByteArray) : PIn 4096 (dpParse s).1 := by
  have hnil : PIn 4096 ([] : List PF) := ⟨Nat.zero_le _, fun x hx => absurd hx (by simp)⟩
  unfold dpParse
  by_cases h : 4096 < s.size
  · rw [if_pos h]; exact hnil
  · rw [if_neg h]
    by_cases hb : 0 ≤ brk s 0
    · rw [if_pos hb]; exact hnil
    · rw [if_neg hb]
      have h1 := pR_in s _ 0 [] rfl (Nat.zero_le _) ⟨Nat.le_refl _, fun x hx => absurd hx (by simp)⟩
      exact ⟨by have := h1.1; omega, fun x hx => by have := h1.2 x hx; exact ⟨this.1, this.2.1, by omega⟩⟩
theorem dpParse_len (s : ByteArray) : (dpParse s).1.length ≤ 1000000000 := by have := (dpParse_in s).1; omega
theorem dpParse_sz (s : ByteArray) : PFsz (dpParse s).1 := ⟨by have := (dpParse_in s).1; omega, fun x hx => by have := (dpParse_in s).2 x hx; exact ⟨this.1, this.2.1, by omega⟩⟩
end Go.Proofs.YtbnhfjhhbgmhfaaDoor
