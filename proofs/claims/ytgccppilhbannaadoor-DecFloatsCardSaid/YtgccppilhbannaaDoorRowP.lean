/-
  Plain words for rows of digits: sums with their carries, differences with what is borrowed, which of two is less. No program in sight.
-/
import Derived.Test.YtgccppilhbannaaDoorDecP
namespace Go.Proofs.YtgccppilhbannaaDoor

theorem rowval_take_succ (l : List Nat) (m : Nat) : rowval (l.take (m + 1)) = rowval (l.take m) + 10 ^ m * l.getD m 0 := by
  by_cases h : m < l.length
  · rw [List.take_succ_eq_append_getElem h, rowval_append, List.length_take, Nat.min_eq_left (by omega), List.getD_eq_getElem?_getD, List.getElem?_eq_getElem h]
    simp [rowval]
  · rw [List.take_of_length_le (by omega), List.take_of_length_le (by omega), List.getD_eq_getElem?_getD, List.getElem?_eq_none (by omega)]
    simp
theorem getD_lt {l : List Nat} (h : ∀ d ∈ l, d < 10) (m : Nat) : l.getD m 0 < 10 := by
  rw [List.getD_eq_getElem?_getD]
  by_cases hm : m < l.length
  · rw [List.getElem?_eq_getElem hm]
    exact h _ (List.getElem_mem hm)
  · rw [List.getElem?_eq_none (by omega)]
    simp

/-- The carry into a place of a sum. -/
def addC (a b : List Nat) : Nat → Nat
  | 0 => 0
  | m + 1 => (a.getD m 0 + b.getD m 0 + addC a b m) / 10
/-- The digit at a place of a sum. -/
def addD (a b : List Nat) (m : Nat) : Nat := (a.getD m 0 + b.getD m 0 + addC a b m) % 10
theorem addC_le {a b : List Nat} (ha : ∀ d ∈ a, d < 10) (hb : ∀ d ∈ b, d < 10) : ∀ m, addC a b m ≤ 1
  | 0 => Nat.zero_le _
  | m + 1 => by
    have h1 := getD_lt ha m
    have h2 := getD_lt hb m
    have h3 := addC_le ha hb m
    simp only [addC]
    omega
theorem addD_lt (a b : List Nat) (m : Nat) : addD a b m < 10 := Nat.mod_lt _ (by decide)
/-- So many digits of a sum, the lowest first. -/
def addL (a b : List Nat) (m : Nat) : List Nat := (List.range m).map (addD a b)
theorem addL_length (a b : List Nat) (m : Nat) : (addL a b m).length = m := by simp [addL]
theorem addL_succ (a b : List Nat) (m : Nat) : addL a b (m + 1) = addL a b m ++ [addD a b m] := by simp [addL, List.range_succ]
theorem addL_lt (a b : List Nat) (m : Nat) : ∀ d ∈ addL a b m, d < 10 := fun d hd => by
  obtain ⟨j, _, rfl⟩ := List.mem_map.1 hd
  exact addD_lt a b j
theorem addL_val (a b : List Nat) : ∀ m, rowval (addL a b m) + 10 ^ m * addC a b m = rowval (a.take m) + rowval (b.take m)
  | 0 => by simp [addL, addC, rowval]
  | m + 1 => by
    have ih := addL_val a b m
    rw [addL_succ, rowval_append, addL_length, rowval_take_succ, rowval_take_succ]
    have h1 : rowval [addD a b m] = addD a b m := by simp [rowval]
    have h2 : addD a b m + 10 * addC a b (m + 1) = a.getD m 0 + b.getD m 0 + addC a b m := by
      simp only [addC, addD]
      omega
    have h3 : 10 ^ (m + 1) * addC a b (m + 1) = 10 ^ m * (10 * addC a b (m + 1)) := by rw [Nat.pow_succ, Nat.mul_assoc]
    have h4 : 10 ^ m * addD a b m + 10 ^ m * (10 * addC a b (m + 1)) = 10 ^ m * a.getD m 0 + 10 ^ m * b.getD m 0 + 10 ^ m * addC a b m := by
      rw [← Nat.mul_add, h2, Nat.mul_add, Nat.mul_add]
    rw [h1, h3]
    omega
/-- The whole sum of two rows. -/
theorem addL_all {a b : List Nat} {m : Nat} (h1 : a.length ≤ m) (h2 : b.length ≤ m) : rowval (addL a b m ++ [addC a b m]) = rowval a + rowval b := by
  have h := addL_val a b m
  rw [List.take_of_length_le h1, List.take_of_length_le h2] at h
  rw [rowval_append, addL_length, show rowval [addC a b m] = addC a b m by simp [rowval]]
  exact h
theorem addL_all0 {a b : List Nat} {m : Nat} (h1 : a.length ≤ m) (h2 : b.length ≤ m) (h0 : addC a b m = 0) : rowval (addL a b m) = rowval a + rowval b := by
  have h := addL_val a b m
  rw [List.take_of_length_le h1, List.take_of_length_le h2, h0] at h
  omega
theorem addC_behind {a b : List Nat} {m : Nat} (ha : ∀ d ∈ a, d < 10) (hb : ∀ d ∈ b, d < 10) (h1 : a.length ≤ m) (h2 : b.length ≤ m) : addC a b (m + 1) = 0 := by
  have h3 := addC_le ha hb m
  simp only [addC]
  rw [List.getD_eq_getElem?_getD, List.getD_eq_getElem?_getD, List.getElem?_eq_none (by omega), List.getElem?_eq_none (by omega)]
  simp
  omega

/-- What is borrowed at a place of a difference. -/
def subB (a b : List Nat) : Nat → Nat
  | 0 => 0
  | m + 1 => if a.getD m 0 < b.getD m 0 + subB a b m then 1 else 0
/-- The digit at a place of a difference. -/
def subD (a b : List Nat) (m : Nat) : Nat := if a.getD m 0 < b.getD m 0 + subB a b m then a.getD m 0 + 10 - (b.getD m 0 + subB a b m) else a.getD m 0 - (b.getD m 0 + subB a b m)
theorem subB_le (a b : List Nat) : ∀ m, subB a b m ≤ 1
  | 0 => Nat.zero_le _
  | m + 1 => by simp only [subB]; split <;> omega
theorem subD_lt {a b : List Nat} (ha : ∀ d ∈ a, d < 10) (m : Nat) : subD a b m < 10 := by
  have h1 := getD_lt ha m
  unfold subD
  split <;> omega
def subL (a b : List Nat) (m : Nat) : List Nat := (List.range m).map (subD a b)
theorem subL_length (a b : List Nat) (m : Nat) : (subL a b m).length = m := by simp [subL]
theorem subL_succ (a b : List Nat) (m : Nat) : subL a b (m + 1) = subL a b m ++ [subD a b m] := by simp [subL, List.range_succ]
theorem subL_lt {a b : List Nat} (ha : ∀ d ∈ a, d < 10) (m : Nat) : ∀ d ∈ subL a b m, d < 10 := fun d hd => by
  obtain ⟨j, _, rfl⟩ := List.mem_map.1 hd
  exact subD_lt ha j
theorem subL_val {a b : List Nat} (hb : ∀ d ∈ b, d < 10) : ∀ m, rowval (subL a b m) + rowval (b.take m) = rowval (a.take m) + 10 ^ m * subB a b m
  | 0 => by simp [subL, subB, rowval]
  | m + 1 => by
    have ih := subL_val (a := a) hb m
    rw [subL_succ, rowval_append, subL_length, rowval_take_succ, rowval_take_succ]
    have h1 : rowval [subD a b m] = subD a b m := by simp [rowval]
    have hlt := getD_lt hb m
    have hle := subB_le a b m
    have h2 : subD a b m + b.getD m 0 + subB a b m = a.getD m 0 + 10 * subB a b (m + 1) := by
      simp only [subB, subD]
      split <;> omega
    have h3 : 10 ^ (m + 1) * subB a b (m + 1) = 10 ^ m * (10 * subB a b (m + 1)) := by rw [Nat.pow_succ, Nat.mul_assoc]
    have h4 : 10 ^ m * subD a b m + 10 ^ m * b.getD m 0 + 10 ^ m * subB a b m = 10 ^ m * a.getD m 0 + 10 ^ m * (10 * subB a b (m + 1)) := by
      rw [← Nat.mul_add, ← Nat.mul_add, h2, Nat.mul_add]
    rw [h1, h3]
    omega
theorem rowval_pad_lt {l : List Nat} (h : ∀ d ∈ l, d < 10) (m : Nat) : rowval (l.take m) < 10 ^ m := by
  have h1 := rowval_lt (l := l.take m) (fun d hd => h d (List.mem_of_mem_take hd))
  exact Nat.lt_of_lt_of_le h1 (Nat.pow_le_pow_right (by decide) (by simp; omega))
/-- The whole difference of two rows, of which the first is not less. -/
theorem subL_all {a b : List Nat} {m : Nat} (ha : ∀ d ∈ a, d < 10) (hb : ∀ d ∈ b, d < 10) (h1 : a.length ≤ m) (h2 : b.length ≤ m) (hle : rowval b ≤ rowval a) : rowval (subL a b m) = rowval a - rowval b := by
  have h := subL_val (a := a) hb m
  rw [List.take_of_length_le h1, List.take_of_length_le h2] at h
  have h3 := rowval_lt (l := subL a b m) (subL_lt ha m)
  rw [subL_length] at h3
  have h4 := subB_le a b m
  have h5 : rowval b < 10 ^ m := by have := rowval_pad_lt hb m; rwa [List.take_of_length_le h2] at this
  have h6 : subB a b m = 0 := by
    apply Classical.byContradiction
    intro e
    have e1 : subB a b m = 1 := by omega
    rw [e1] at h
    omega
  rw [h6] at h
  omega
/-- Which of two rows is less, when all digits from a place on are equal: the digits ahead decide. -/
theorem rowval_split (l : List Nat) (m : Nat) : rowval l = rowval (l.take m) + 10 ^ m * rowval (l.drop m) := by
  by_cases h : m ≤ l.length
  · have := rowval_append (l.take m) (l.drop m)
    rw [List.take_append_drop, List.length_take, Nat.min_eq_left h] at this
    exact this
  · rw [List.take_of_length_le (by omega), List.drop_of_length_le (by omega)]
    simp [rowval]
/-- Two rows are equal from a place on. -/
def EqFrom (a b : List Nat) (m : Nat) : Prop := ∀ j, m ≤ j → a.getD j 0 = b.getD j 0
theorem rowval_ext : ∀ (a b : List Nat), (∀ j, a.getD j 0 = b.getD j 0) → rowval a = rowval b
  | [], [], _ => rfl
  | [], y :: b, h => by
    have h0 := h 0
    have ih := rowval_ext [] b (fun j => by simpa using h (j + 1))
    simp [rowval] at h0 ih ⊢
    omega
  | x :: a, [], h => by
    have h0 := h 0
    have ih := rowval_ext a [] (fun j => by simpa using h (j + 1))
    simp [rowval] at h0 ih ⊢
    omega
  | x :: a, y :: b, h => by
    have h0 := h 0
    have ih := rowval_ext a b (fun j => by simpa using h (j + 1))
    simp [rowval] at h0 ih ⊢
    omega
theorem getD_drop (l : List Nat) (m j : Nat) : (l.drop m).getD j 0 = l.getD (m + j) 0 := by
  rw [List.getD_eq_getElem?_getD, List.getD_eq_getElem?_getD, List.getElem?_drop]
theorem eqFrom_drop {a b : List Nat} {m : Nat} (h : EqFrom a b m) : rowval (a.drop m) = rowval (b.drop m) :=
  rowval_ext _ _ fun j => by rw [getD_drop, getD_drop]; exact h _ (by omega)
/-- The first place from above where two rows differ decides which is less. -/
theorem less_at {a b : List Nat} {m : Nat} (ha : ∀ d ∈ a, d < 10) (hb : ∀ d ∈ b, d < 10) (h : EqFrom a b (m + 1)) (hne : a.getD m 0 ≠ b.getD m 0) : rowval a < rowval b ↔ a.getD m 0 < b.getD m 0 := by
  have h1 := rowval_split a (m + 1)
  have h2 := rowval_split b (m + 1)
  rw [eqFrom_drop h] at h1
  rw [rowval_take_succ] at h1 h2
  have h3 := rowval_pad_lt ha m
  have h4 := rowval_pad_lt hb m
  rcases Nat.lt_or_gt_of_ne hne with hlt | hgt
  · have h5 : 10 ^ m * (a.getD m 0 + 1) ≤ 10 ^ m * b.getD m 0 := Nat.mul_le_mul_left _ hlt
    rw [Nat.mul_add, Nat.mul_one] at h5
    exact ⟨fun _ => hlt, fun _ => by omega⟩
  · have h5 : 10 ^ m * (b.getD m 0 + 1) ≤ 10 ^ m * a.getD m 0 := Nat.mul_le_mul_left _ hgt
    rw [Nat.mul_add, Nat.mul_one] at h5
    exact ⟨fun _ => by omega, fun _ => by omega⟩
theorem eq_from_zero {a b : List Nat} (h : EqFrom a b 0) : rowval a = rowval b := by
  have := eqFrom_drop h
  simpa using this
end Go.Proofs.YtgccppilhbannaaDoor
