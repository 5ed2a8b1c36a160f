/-
  References, plain: the first semicolon, digits, what is left of a text.
-/
import Derived.Test.YtnmpbphnfiiafaaGreatDoorXmM
import Derived.Lib.IndexMore
namespace Go.Proofs.YtnmpbphnfiiafaaGreatDoor
open Go.RowKit Go.PlainAid

def hexd : List UInt8 := [48, 49, 50, 51, 52, 53, 54, 55, 56, 57, 97, 98, 99, 100, 101, 102]
theorem hex_all : ∀ n : Fin 256, Lib.indexByte hexd (lowC (UInt8.ofNat n.val)) = if digV (n.val : Int) < 16 then digV (n.val : Int) else -1 := by decide +kernel
theorem hex_at (c : UInt8) : Lib.indexByte hexd (lowC c) = if digV (c.toNat : Int) < 16 then digV (c.toNat : Int) else -1 := by
  have := hex_all ⟨c.toNat, c.toNat_lt⟩
  simpa using this
theorem digV_nonneg (c : Int) : 0 ≤ digV c := by
  unfold digV
  split
  · omega
  · split
    · omega
    · split <;> omega
theorem smF_ge (s : ByteArray) : ∀ (f p e : Nat), smF s f p = some e → p ≤ e ∧ e < s.size ∧ bt s e = 59
  | 0, p, e, h => by simp [smF] at h
  | f + 1, p, e, h => by
    unfold smF at h
    split at h
    · rename_i h59
      injection h with h
      subst h
      refine ⟨Nat.le_refl _, ?_, h59⟩
      by_cases hp : p < s.size
      · exact hp
      · rw [bt_end s (by omega)] at h59
        omega
    · have := smF_ge s f (p + 1) e h
      omega
theorem smF_past (s : ByteArray) : ∀ (f p : Nat), s.size ≤ p → smF s f p = none
  | 0, _, _ => rfl
  | f + 1, p, h => by
    unfold smF
    rw [bt_end s h, if_neg (by decide)]
    exact smF_past s f (p + 1) (by omega)
theorem indexByte_semi (s : ByteArray) : ∀ (f p : Nat), s.size ≤ p + f → Lib.indexByte (s.data.toList.drop p) 59 = match smF s f p with | none => -1 | some e => (e : Int) - (p : Int)
  | 0, p, h => by
    rw [List.drop_of_length_le (by rw [Array.length_toList]; show s.size ≤ p; omega)]
    rfl
  | f + 1, p, h => by
    by_cases hp : p < s.size
    · have hp' : p < s.data.toList.length := by rw [Array.length_toList]; exact hp
      have e : bt s p = ((s.data.toList[p]'hp').toNat : Int) := by
        rw [← get_bt s p hp]
        rfl
      have ih := indexByte_semi s f (p + 1) (by omega)
      rw [List.drop_eq_getElem_cons hp']
      unfold Lib.indexByte smF
      by_cases h59 : bt s p = 59
      · have hx : s.data.toList[p]'hp' = 59 := UInt8.toNat_inj.1 (by rw [e] at h59; show _ = 59; omega)
        rw [if_pos h59, hx]
        simp
      · have hx : ((s.data.toList[p]'hp') == (59 : UInt8)) = false := by
          have : s.data.toList[p]'hp' ≠ 59 := fun hx => h59 (by rw [e, hx]; rfl)
          simpa using this
        rw [if_neg h59, hx, ih]
        cases hsm : smF s f (p + 1) with
        | none => simp
        | some q =>
          simp only [Bool.false_eq_true, if_false]
          have hge : ((q : Int) - ((p + 1 : Nat) : Int) == -1) = false ∨ (q : Int) - ((p + 1 : Nat) : Int) = -1 := by
            by_cases hq : (q : Int) - ((p + 1 : Nat) : Int) = -1
            · exact .inr hq
            · exact .inl (by simpa using hq)
          rcases hge with h1 | h1
          · rw [h1]
            simp
            omega
          · exfalso
            have := (smF_ge s f (p + 1) q (by assumption)).1
            omega
    · rw [List.drop_of_length_le (by rw [Array.length_toList]; show s.size ≤ p; omega)]
      rw [smF_past s (f + 1) p (by omega)]
      rfl
theorem index_byte (l : List UInt8) (c : UInt8) : Lib.index l [c] = Lib.indexByte l c := by
  induction l with
  | nil => rfl
  | cons b l ih =>
    unfold Lib.index Lib.indexByte
    rw [ih]
    simp only [List.isPrefixOf, Bool.and_true]
    by_cases h : b = c
    · subst h
      simp
    · have h1 : (c == b) = false := by simpa using fun e => h e.symm
      have h2 : (b == c) = false := by simpa using h
      rw [h1, h2]
/-- What stands ahead of the first semicolon of a text's rest. -/
theorem cut_semi (t : ByteArray) : Lib.cut (t.extract 1 t.size).data.toList [59] = match semi t 1 with
    | none => ((t.extract 1 t.size).data.toList, [], false)
    | some e => ((t.extract 1 e).data.toList, (t.data.toList.drop 1).drop ((e - 1) + 1), true) := by
  rw [drop_list]
  unfold Lib.cut
  rw [index_byte, indexByte_semi t (t.size - 1) 1 (by omega)]
  unfold semi
  cases hs : smF t (t.size - 1) 1 with
  | none =>
    simp only
    rw [if_neg (by decide)]
  | some e =>
    have h := smF_ge t _ _ _ hs
    simp only
    rw [if_pos (by omega), show ((e : Int) - ((1 : Nat) : Int)).toNat = e - 1 by omega]
    congr 1
    rw [ByteArray.data_extract, Array.toList_extract]
theorem semi_in {t : ByteArray} {e : Nat} (h : semi t 1 = some e) : 1 ≤ e ∧ e < t.size ∧ bt t e = 59 := smF_ge t _ _ _ h
end Go.Proofs.YtnmpbphnfiiafaaGreatDoor
