/-
  The walk of the reference's Parse.
-/
import Derived.Test.YtgccppilhbannaaDoorRows
import Derived.Test.YtgccppilhbannaaDoorDecP
import Derived.Test.YtgccppilhbannaaDoorDecB
import Derived.Test.YtgccppilhbannaaDoorDecN
import Derived.Test.YtgccppilhbannaaDoorDecR
import Derived.Test.YtgccppilhbannaaDoorDecM
import Derived.Test.YtgccppilhbannaaDoorDecH
import Derived.WalkKit
import Derived.WalkSpells
import Derived.WalkLawsBesides
import Derived.Lib.Hide
import Derived.Deep.OwnRows
import Derived.Handy
namespace Go.Proofs.YtgccppilhbannaaDoor
open Go.RowKit Go.PlainAid

/-- The digits of bytes, the lowest first; a point is passed over. -/
def lowL (L : List UInt8) : List Nat := ((L.filter (· != 46)).map fun b => b.toNat - 48).reverse
theorem lowL_point (L : List UInt8) : lowL (46 :: L) = lowL L := by simp [lowL]
theorem lowL_dig {b : UInt8} (L : List UInt8) (h : b ≠ 46) : lowL (b :: L) = lowL L ++ [b.toNat - 48] := by
  unfold lowL
  rw [List.filter_cons, if_pos (by simpa using h)]
  simp
theorem drop_at (s : ByteArray) (i : Nat) (h : i < s.size) : s.data.toList.drop i = s[i] :: s.data.toList.drop (i + 1) := by
  rw [List.drop_eq_getElem_cons (by rw [← Lib.size_eq]; exact h)]
  rfl
theorem low_point (s : ByteArray) (i : Nat) (h : i < s.size) (h46 : bt s i = 46) : lowL (s.data.toList.drop i) = lowL (s.data.toList.drop (i + 1)) := by
  rw [drop_at s i h]
  have : s[i] = 46 := u8_eq (by rw [get_bt s i h]; exact h46)
  rw [this, lowL_point]
theorem low_dig (s : ByteArray) (i : Nat) (h : i < s.size) (h1 : 48 ≤ bt s i) : lowL (s.data.toList.drop i) = lowL (s.data.toList.drop (i + 1)) ++ [((bt s i).toNat - 48 : Nat)] := by
  rw [drop_at s i h, lowL_dig]
  · rw [← get_bt s i h]; rfl
  · intro e
    rw [← get_bt s i h, e] at h1
    exact absurd h1 (by decide)
theorem all_zero (l : List Nat) : l.all (· == 0) = decide (rowval l = 0) := by
  induction l with
  | nil => rfl
  | cons d l ih =>
    rw [List.all_cons, ih]
    show _ = decide (d + 10 * rowval l = 0)
    rw [Bool.eq_iff_iff]
    simp
    omega
theorem filt {t : ByteArray} (h : AllDig t) : t.data.toList.filter (· != 46) = t.data.toList := by
  rw [List.filter_eq_self]
  intro b hb
  have := (allDig_mem.1 h b hb).1
  simp
  intro e
  rw [e] at this
  exact absurd this (by decide)
theorem low_text {s : ByteArray} (h : digAt s (pFrom s) = true) (h2 : pEnd s < s.size → bt s (pEnd s) = 46 ∧ pEnd s + 1 + pScale s = s.size) : lowL (s.data.toList.drop (pFrom s)) = (dl (pText s)).reverse := by
  obtain ⟨a, b, c⟩ := pEnd_facts h
  have hT := filt (pText_dig h (fun e => (h2 e).2))
  unfold lowL dl
  congr 1
  congr 1
  rw [← hT]
  by_cases e : pEnd s < s.size
  · obtain ⟨h46, _⟩ := h2 e
    have hx : (pText s).data.toList = (s.data.toList.drop (pFrom s)).take (pEnd s - pFrom s) ++ s.data.toList.drop (pEnd s + 1) := by
      unfold pText
      rw [if_pos e]
      simp [ByteArray.data_append]
      rw [List.take_of_length_le (by rw [List.length_drop, ← Lib.size_eq]; omega)]
    rw [hx]
    conv => lhs; rw [← List.take_append_drop (pEnd s - pFrom s) (s.data.toList.drop (pFrom s)), List.drop_drop, show pFrom s + (pEnd s - pFrom s) = pEnd s by omega, drop_at s _ e]
    have e46 : s[pEnd s] = 46 := u8_eq (by rw [get_bt s _ e]; exact h46)
    rw [e46, List.filter_append, List.filter_append]
    simp
  · have hx : (pText s).data.toList = s.data.toList.drop (pFrom s) := by
      unfold pText
      rw [if_neg e]
      simp
      rw [List.take_of_length_le (by rw [List.length_drop, ← Lib.size_eq]; omega)]
    rw [hx]

end Go.Proofs.YtgccppilhbannaaDoor
