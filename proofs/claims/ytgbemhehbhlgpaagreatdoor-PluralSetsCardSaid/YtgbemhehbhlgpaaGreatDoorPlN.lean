/-
  Rules for numbers: the plain law of numbers in a rule: what strconv reads and writes. No program in sight.
-/
import Derived.Test.YtgbemhehbhlgpaaGreatDoorPlS
import Derived.Lib.ParseIntB
import Derived.Lib.ItoaMem
namespace Go.Proofs.YtgbemhehbhlgpaaGreatDoor
open Go.PlainAid

theorem dec_low (n : Nat) : Lib.decDigits n = (lowD n).reverse.map fun d => UInt8.ofNat (48 + d) := by
  by_cases h : n < 10
  · rw [Lib.decDigits_one h, lowD_small n h]
    rfl
  · rw [Lib.decDigits, dif_neg h, lowD_step n (by omega), dec_low (n / 10), List.reverse_cons, List.map_append]
    rfl
  termination_by n
  decreasing_by omega
theorem itoa_digs (n : Nat) : (⟨(Lib.itoa (n : Int)).toArray⟩ : ByteArray) = digs n := by
  rw [Lib.itoa_nonneg, dec_low]
  rfl
def dvF (acc : Nat) (l : List UInt8) : Nat := l.foldl (fun a c => a * 10 + (c.toNat - 48)) acc
/-- Bytes that are all digits spell the number that they are. -/
theorem parse_digs : ∀ (l : List UInt8) (acc : Nat), (∀ c ∈ l, 48 ≤ c.toNat ∧ c.toNat ≤ 57) → (acc + 1) * 10 ^ l.length ≤ 10000000000 → Lib.parseUintM (2 ^ 64 - 1) acc l = .ok (dvF acc l)
  | [], acc, _, _ => rfl
  | c :: r, acc, h, hb => by
    have hc := h c (by simp)
    have hp : 0 < 10 ^ r.length := Nat.pow_pos (by decide)
    rw [List.length_cons, Nat.pow_succ] at hb
    have hacc : acc + 1 ≤ 10000000000 := Nat.le_trans (Nat.le_mul_of_pos_right _ (Nat.mul_pos hp (by decide))) hb
    show (if 48 ≤ c.toNat ∧ c.toNat ≤ 57 then (if 1844674407370955162 ≤ acc then Lib.NumEnd.range else if 2 ^ 64 - 1 < acc * 10 + (c.toNat - 48) then Lib.NumEnd.range else Lib.parseUintM (2 ^ 64 - 1) (acc * 10 + (c.toNat - 48)) r) else Lib.NumEnd.syntax) = _
    rw [if_pos hc, if_neg (by omega), if_neg (by omega)]
    refine parse_digs r _ (fun x hx => h x (by simp [hx])) ?_
    refine Nat.le_trans ?_ hb
    have e : (acc + 1) * (10 ^ r.length * 10) = (acc + 1) * 10 * 10 ^ r.length := by rw [Nat.mul_comm (10 ^ r.length) 10, Nat.mul_assoc]
    rw [e]
    exact Nat.mul_le_mul_right _ (by omega)
theorem dvF_rowval : ∀ (l : List UInt8) (acc : Nat), dvF acc l = acc * 10 ^ l.length + rowval (l.map fun b => b.toNat - 48).reverse
  | [], acc => by simp [dvF, rowval]
  | c :: r, acc => by
    show dvF (acc * 10 + (c.toNat - 48)) r = _
    rw [dvF_rowval r, List.map_cons, List.reverse_cons, rowval_append, List.length_reverse, List.length_map, List.length_cons, Nat.pow_succ]
    simp only [rowval]
    rw [Nat.add_mul, Nat.mul_zero, Nat.add_zero, Nat.mul_assoc, Nat.mul_comm 10, Nat.mul_comm (c.toNat - 48)]
    omega
theorem all_dig {t : ByteArray} (h : ∀ i, i < t.size → bDg (bt t i) = true) : ∀ c ∈ t.data.toList, 48 ≤ c.toNat ∧ c.toNat ≤ 57 := by
  intro c hc
  obtain ⟨j, hj, rfl⟩ := List.mem_iff_getElem.1 hc
  rw [size_list] at hj
  have := of_decide_eq_true (h j hj)
  rw [← get_bt t j hj] at this
  have e : t.data.toList[j]'(by rw [size_list]; exact hj) = t[j] := rfl
  rw [e]
  omega
/-- What ParseInt makes of a text of digits. -/
theorem int_digs {t : ByteArray} (h : ∀ i, i < t.size → bDg (bt t i) = true) (h1 : 1 ≤ t.size) (h9 : t.size ≤ 9) : Lib.parseIntB 64 t.data.toList = .ok (dval t : Int) ∧ dval t < 1000000000 := by
  have ha := all_dig h
  have hl : t.data.toList.length = t.size := size_list t
  have hp : 10 ^ t.size ≤ 1000000000 := by
    have : ∀ k : Fin 10, 10 ^ k.val ≤ 1000000000 := by decide
    exact this ⟨t.size, by omega⟩
  have hv : dval t < 10 ^ t.size := by
    unfold dval
    have := rowval_lt (l := (dl t).reverse) (fun d hd => by
      obtain ⟨c, hc, rfl⟩ := List.mem_map.1 (List.mem_reverse.1 hd)
      have := ha c hc
      omega)
    rwa [List.length_reverse, dl_length] at this
  have hu := parse_digs t.data.toList 0 ha (by rw [hl]; omega)
  rw [dvF_rowval, Nat.zero_mul, Nat.zero_add] at hu
  have hu : Lib.parseUintM (2 ^ 64 - 1) 0 t.data.toList = .ok (dval t) := hu
  refine ⟨?_, by omega⟩
  cases hc : t.data.toList with
  | nil => rw [hc] at hl; simp at hl; omega
  | cons c r =>
    rw [hc] at hu ha
    have h0 := ha c (by simp)
    unfold Lib.parseIntB Lib.parseUintB
    simp only
    rw [if_neg (show ¬ (c.toNat = 43 ∨ c.toNat = 45) by omega), if_neg (by simp), hu]
    simp only
    rw [if_neg (fun g => by have := g.2; omega), if_neg (fun g => by have := g.1; omega), if_neg (by omega)]
/-- .. of a text whose first byte is no digit, and no sign with a digit behind it. -/
theorem int_bad {t : ByteArray} (h : t.size = 0 ∨ (bDg (bt t 0) = false ∧ (1 < t.size → bt t 0 ≠ 43 ∧ bt t 0 ≠ 45))) : Lib.parseIntB 64 t.data.toList = .syntax := by
  have hl : t.data.toList.length = t.size := size_list t
  cases hc : t.data.toList with
  | nil => rfl
  | cons c r =>
    rw [hc, List.length_cons] at hl
    have hb : bt t 0 = c.toNat := by
      rw [← get_bt t 0 (by omega)]
      have e : t.data.toList[0]'(by rw [hc]; simp) = t[0]'(by omega) := rfl
      rw [← e]
      simp [hc]
    rcases h with h | ⟨h1, h2⟩
    · omega
    · have hd := of_decide_eq_false h1
      rw [hb] at hd h2
      unfold Lib.parseIntB Lib.parseUintB
      simp only
      by_cases hs : c.toNat = 43 ∨ c.toNat = 45
      · have hr : r = [] := List.eq_nil_of_length_eq_zero (by
          by_cases g : 1 < t.size
          · have := h2 g; omega
          · omega)
        rw [if_pos hs, hr]
        rfl
      · rw [if_neg hs, if_neg (by simp)]
        unfold Lib.parseUintM
        rw [if_neg (by omega)]
end Go.Proofs.YtgbemhehbhlgpaaGreatDoor
