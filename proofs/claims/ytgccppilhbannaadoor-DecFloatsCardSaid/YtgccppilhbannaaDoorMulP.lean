/-
  Plain: rows of numbers that stand in memory, and products of rows of digits.
-/
import Derived.Test.YtgccppilhbannaaDoorRowP
import Derived.Test.YtgccppilhbannaaDoorDecR
namespace Go.Proofs.YtgccppilhbannaaDoor
open Go.RowKit Go.PlainAid

/-- Whole numbers stand in a block that may be written. -/
def Sums (w : World) (b n : Nat) (f : Nat → Nat) : Prop := ∀ p, p < n → w.cell? ⟨b, p, none⟩ = some (.int .i64 ((f p : Nat) : Int)) ∧ w.frozen? ⟨b, p, none⟩ = false
theorem Sums.set {w : World} {b n : Nat} {f g : Nat → Nat} (h : Sums w b n f) (p : Nat) (v : Nat) (hp : p < n) (hg : ∀ q, q < n → g q = if q = p then v else f q) : Sums (w.setCell ⟨b, p, none⟩ (.int .i64 (v : Int))) b n g := fun q hq => by
  refine ⟨?_, by rw [World.frozen?_setCell]; exact (h q hq).2⟩
  rw [hg q hq]
  by_cases e : q = p
  · subst e
    rw [World.cell?_setCell_same' _ _ _ (by rw [(h _ hq).1]; rfl), if_pos rfl]
  · rw [World.cell?_setCell_other _ _ _ _ (by first | (simp; done) | (simp; omega)), (h q hq).1, if_neg e]
theorem Sums.on {w w' : World} {b n : Nat} {f : Nat → Nat} (h : Sums w b n f) (hB : Below w.heap.size w w') (hb : b < w.heap.size) : Sums w' b n f := fun q hq =>
  ⟨(hB.cell (p := ⟨b, q, none⟩) hb).trans (h q hq).1, (hB.frozen (p := ⟨b, q, none⟩) hb).trans (h q hq).2⟩
theorem Sums.drewN {w : World} {b n : Nat} {f : Nat → Nat} (h : Sums w b n f) (k : Nat) : Sums (w.drewN k) b n f := fun q hq => ⟨by simpa using (h q hq).1, by simpa using (h q hq).2⟩
theorem Sums.other {w : World} {b n : Nat} {f : Nat → Nat} (h : Sums w b n f) (c p : Nat) (v : Value) (hc : b ≠ c) : Sums (w.setCell ⟨c, p, none⟩ v) b n f := fun q hq =>
  ⟨(World.cell?_setCell_other _ _ _ _ (fun e => hc (congrArg Addr.block e).symm)).trans (h q hq).1, by rw [World.frozen?_setCell]; exact (h q hq).2⟩

theorem getD_set (l : List Nat) (j v i : Nat) (h : j < l.length) : (l.set j v).getD i 0 = if i = j then v else l.getD i 0 := by
  rw [List.getD_eq_getElem?_getD, List.getD_eq_getElem?_getD, List.getElem?_set]
  by_cases e : i = j
  · subst e
    rw [if_pos rfl, if_pos h, if_pos rfl]
    rfl
  · rw [if_neg (Ne.symm e), if_neg e]
theorem rowval_set : ∀ (l : List Nat) (j v : Nat), j < l.length → rowval (l.set j v) + 10 ^ j * l.getD j 0 = rowval l + 10 ^ j * v
  | [], _, _, h => by simp at h
  | _ :: _, 0, _, _ => by simp [rowval]; omega
  | d :: l, j + 1, v, h => by
    have ih := rowval_set l j v (by simpa using h)
    simp only [List.set_cons_succ, rowval, List.getD_cons_succ]
    have e : ∀ x, 10 ^ (j + 1) * x = 10 * (10 ^ j * x) := fun x => by rw [Nat.pow_succ, Nat.mul_comm (10 ^ j) 10, Nat.mul_assoc]
    rw [e, e]
    omega
theorem drop_cons (l : List Nat) (m : Nat) (h : m < l.length) : l.drop m = l.getD m 0 :: l.drop (m + 1) := by
  rw [List.drop_eq_getElem_cons h, List.getD_eq_getElem?_getD, List.getElem?_eq_getElem h]
  rfl
theorem rowval_drop (l : List Nat) (m : Nat) (h : m < l.length) : rowval (l.drop m) = l.getD m 0 + 10 * rowval (l.drop (m + 1)) := by
  rw [drop_cons l m h]
  simp only [rowval]
/-- What stands from a place on, at its places. -/
def pvd (l : List Nat) (m : Nat) : Nat := 10 ^ m * rowval (l.drop m)
theorem pvd_zero (l : List Nat) : pvd l 0 = rowval l := by simp [pvd]
theorem pvd_end (l : List Nat) : pvd l l.length = 0 := by simp [pvd, rowval]
theorem pvd_step (l : List Nat) (m : Nat) (h : m < l.length) : pvd l m = l.getD m 0 * 10 ^ m + pvd l (m + 1) := by
  unfold pvd
  rw [rowval_drop l m h, Nat.mul_add, Nat.mul_comm (10 ^ m) (l.getD m 0), Nat.pow_succ, Nat.mul_assoc]
theorem getD_le (l : List Nat) (m : Nat) : 10 ^ m * l.getD m 0 ≤ rowval l := by
  by_cases h : m < l.length
  · have h1 := rowval_split l m
    have h2 := rowval_drop l m h
    have h3 : 10 ^ m * l.getD m 0 ≤ 10 ^ m * rowval (l.drop m) := Nat.mul_le_mul_left _ (by omega)
    omega
  · rw [List.getD_eq_getElem?_getD, List.getElem?_eq_none (by omega)]
    simp
/-- A product is added at a place. -/
theorem mul_step {R : List Nat} {i j x y A B V : Nat} (h : i + j < R.length) (hV : rowval R = A * V + x * 10 ^ i * B) : rowval (R.set (i + j) (R.getD (i + j) 0 + x * y)) = A * V + x * 10 ^ i * (B + y * 10 ^ j) := by
  have h1 := rowval_set R (i + j) (R.getD (i + j) 0 + x * y) h
  rw [Nat.mul_add] at h1
  have h2 : x * 10 ^ i * (B + y * 10 ^ j) = x * 10 ^ i * B + 10 ^ (i + j) * (x * y) := by
    rw [Nat.mul_add, Nat.pow_add]
    congr 1
    rw [Nat.mul_mul_mul_comm, Nat.mul_comm (x * y)]
  rw [h2]
  omega
/-- What is carried: the digits so far, and the sums behind them. -/
theorem carry_step {R O : List Nat} {m T : Nat} (h : m + 1 < R.length) (hO : O.length = m) (hT : rowval O + 10 ^ m * rowval (R.drop m) = T) : rowval (O ++ [R.getD m 0 % 10]) + 10 ^ (m + 1) * rowval ((R.set (m + 1) (R.getD (m + 1) 0 + R.getD m 0 / 10)).drop (m + 1)) = T := by
  rw [rowval_append, hO, rowval_drop _ (m + 1) (by rw [List.length_set]; exact h), getD_set _ _ _ _ h, if_pos rfl]
  have e : (R.set (m + 1) (R.getD (m + 1) 0 + R.getD m 0 / 10)).drop (m + 1 + 1) = R.drop (m + 1 + 1) := by
    rw [List.drop_set_of_lt (by omega)]
  rw [e]
  rw [rowval_drop R m (by omega), rowval_drop R (m + 1) h] at hT
  have e1 : rowval [R.getD m 0 % 10] = R.getD m 0 % 10 := by simp [rowval]
  rw [e1, ← hT, Nat.pow_succ]
  have e2 : 10 ^ m * 10 * (R.getD (m + 1) 0 + R.getD m 0 / 10 + 10 * rowval (List.drop (m + 1 + 1) R)) = 10 ^ m * (10 * (R.getD (m + 1) 0 + R.getD m 0 / 10 + 10 * rowval (List.drop (m + 1 + 1) R))) := Nat.mul_assoc _ _ _
  rw [e2, Nat.add_assoc, ← Nat.mul_add]
  congr 2
  omega
end Go.Proofs.YtgccppilhbannaaDoor
