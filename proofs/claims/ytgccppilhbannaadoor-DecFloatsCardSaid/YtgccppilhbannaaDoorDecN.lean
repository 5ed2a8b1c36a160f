/-
  Plain words on how a decimal's text is read: how many digits stand at a place, where the point is, what is wrong first. No program in sight.
-/
import Derived.Test.YtgccppilhbannaaDoorDecP
import Derived.Test.YtgccppilhbannaaDoorDecB
namespace Go.Proofs.YtgccppilhbannaaDoor
open Go.RowKit Go.PlainAid

/-- Does a digit stand at a place of a text? -/
def digAt (s : ByteArray) (k : Nat) : Bool := decide (k < s.size ∧ 48 ≤ bt s k ∧ bt s k ≤ 57)
theorem digAt_iff {s : ByteArray} {k : Nat} : digAt s k = true ↔ k < s.size ∧ 48 ≤ bt s k ∧ bt s k ≤ 57 := decide_eq_true_iff
def ndF (s : ByteArray) : Nat → Nat → Nat
  | 0, _ => 0
  | f + 1, p => if digAt s p = true then 1 + ndF s f (p + 1) else 0
/-- How many digits stand at a place. -/
def ndig (s : ByteArray) (p : Nat) : Nat := ndF s (s.size - p) p
theorem nd_step {s : ByteArray} {p : Nat} (h : digAt s p = true) : ndig s p = 1 + ndig s (p + 1) := by
  have hp := (digAt_iff.1 h).1
  unfold ndig
  obtain ⟨f, hf⟩ : ∃ f, s.size - p = f + 1 := ⟨s.size - p - 1, by omega⟩
  rw [hf]
  show (if digAt s p = true then 1 + ndF s f (p + 1) else 0) = _
  rw [if_pos h, show s.size - (p + 1) = f by omega]
theorem nd_stop {s : ByteArray} {p : Nat} (h : digAt s p = false) : ndig s p = 0 := by
  unfold ndig
  cases e : s.size - p with
  | zero => rfl
  | succ f =>
    show (if digAt s p = true then 1 + ndF s f (p + 1) else 0) = 0
    rw [h]; rfl
theorem ndF_le (s : ByteArray) : ∀ f p, ndF s f p ≤ f
  | 0, _ => Nat.le_refl _
  | f + 1, p => by
    have := ndF_le s f (p + 1)
    simp only [ndF]
    split <;> omega
theorem nd_le (s : ByteArray) (p : Nat) : ndig s p ≤ s.size - p := ndF_le s _ _
theorem nd_all (s : ByteArray) : ∀ n p, ndig s p = n → (∀ k, k < n → digAt s (p + k) = true) ∧ digAt s (p + n) = false
  | 0, p, h => by
    refine ⟨fun k hk => absurd hk (by omega), ?_⟩
    cases hd : digAt s p with
    | true => have := nd_step hd; omega
    | false => rfl
  | n + 1, p, h => by
    cases hd : digAt s p with
    | false => have := nd_stop hd; omega
    | true =>
      have h1 := nd_step hd
      obtain ⟨h2, h3⟩ := nd_all s n (p + 1) (by omega)
      refine ⟨fun k hk => ?_, by rw [show p + (n + 1) = p + 1 + n by omega]; exact h3⟩
      by_cases e : k = 0
      · subst e; simpa using hd
      · rw [show p + k = p + 1 + (k - 1) by omega]; exact h2 (k - 1) (by omega)

def pFrom (s : ByteArray) : Nat := if bt s 0 = 45 then 1 else 0
def pEnd (s : ByteArray) : Nat := pFrom s + (if bt s (pFrom s) = 48 then 1 else ndig s (pFrom s))
def pScale (s : ByteArray) : Nat := if pEnd s < s.size then ndig s (pEnd s + 1) else 0
def pText (s : ByteArray) : ByteArray := if pEnd s < s.size then s.extract (pFrom s) (pEnd s) ++ s.extract (pEnd s + 1) s.size else s.extract (pFrom s) s.size

abbrev PR := Bool × ByteArray × Int × Int × Int
def badP (k : Nat) : PR := (false, ⟨#[]⟩, 0, 130, k)
/-- What Parse answers: the decimal, the error, its place. -/
def parseP (s : ByteArray) : PR :=
  if 802 < s.size then (false, ⟨#[]⟩, 0, 3, 0)
  else if digAt s (pFrom s) = false then badP (pFrom s)
  else if pEnd s < s.size ∧ bt s (pEnd s) ≠ 46 then badP (pEnd s)
  else if pEnd s < s.size ∧ (pScale s = 0 ∨ pEnd s + 1 + pScale s < s.size) then badP (pEnd s + 1 + pScale s)
  else if pFrom s = 1 ∧ dval (pText s) = 0 then badP 0
  else ((madeR (pFrom s == 1) (dval (pText s)) (pScale s)).1, (madeR (pFrom s == 1) (dval (pText s)) (pScale s)).2.1, (madeR (pFrom s == 1) (dval (pText s)) (pScale s)).2.2.1, (madeR (pFrom s == 1) (dval (pText s)) (pScale s)).2.2.2, 0)
abbrev parseV (r : PR) : Value := .tuple #[.agg #[.bool r.1, .string r.2.1, .int .i64 r.2.2.1], .agg #[.int .i64 r.2.2.2.1, .int .i64 r.2.2.2.2]]

theorem bt_sub (s : ByteArray) (a b k : Nat) (h : k < b - a) (hb : b ≤ s.size) : bt (s.extract a b) k = bt s (a + k) := by
  unfold bt
  rw [dif_pos (by simp; omega), dif_pos (by omega)]
  simp [ByteArray.getElem_extract]
theorem size_sub (s : ByteArray) (a b : Nat) (hb : b ≤ s.size) : (s.extract a b).size = b - a := by simp; omega
theorem bt_app (a b : ByteArray) (k : Nat) : bt (a ++ b) k = if k < a.size then bt a k else bt b (k - a.size) := by
  unfold bt
  by_cases h : k < a.size
  · rw [if_pos h, dif_pos (by rw [ByteArray.size_append]; omega), dif_pos h, ByteArray.getElem_append_left h]
  · rw [if_neg h]
    by_cases h2 : k - a.size < b.size
    · rw [dif_pos (by rw [ByteArray.size_append]; omega), dif_pos h2, ByteArray.getElem_append_right (by omega)]
    · rw [dif_neg (by rw [ByteArray.size_append]; omega), dif_neg h2]
theorem allDig_sub {s : ByteArray} {a b : Nat} (hb : b ≤ s.size) (h : ∀ k, a ≤ k → k < b → 48 ≤ bt s k ∧ bt s k ≤ 57) : AllDig (s.extract a b) := fun k hk => by
  rw [size_sub s a b hb] at hk
  rw [bt_sub s a b k hk hb]
  exact h _ (by omega) (by omega)
theorem allDig_app {a b : ByteArray} (ha : AllDig a) (hb : AllDig b) : AllDig (a ++ b) := fun k hk => by
  rw [ByteArray.size_append] at hk
  rw [bt_app]
  split
  · rename_i h; exact ha k h
  · exact hb _ (by omega)

theorem pEnd_facts {s : ByteArray} (h : digAt s (pFrom s) = true) : pFrom s < pEnd s ∧ pEnd s ≤ s.size ∧ ∀ k, pFrom s ≤ k → k < pEnd s → 48 ≤ bt s k ∧ bt s k ≤ 57 := by
  have hd := digAt_iff.1 h
  unfold pEnd
  by_cases h0 : bt s (pFrom s) = 48
  · rw [if_pos h0]
    refine ⟨by omega, by omega, fun k h1 h2 => ?_⟩
    obtain rfl : k = pFrom s := by omega
    omega
  · rw [if_neg h0]
    obtain ⟨n1, n2⟩ := nd_all s _ (pFrom s) rfl
    have h1 := nd_step h
    have h2 := nd_le s (pFrom s)
    refine ⟨by omega, by omega, fun k h3 h4 => ?_⟩
    have := n1 (k - pFrom s) (by omega)
    rw [show pFrom s + (k - pFrom s) = k by omega] at this
    exact (digAt_iff.1 this).2
theorem pText_dig {s : ByteArray} (h : digAt s (pFrom s) = true) (h2 : pEnd s < s.size → pEnd s + 1 + pScale s = s.size) : AllDig (pText s) := by
  obtain ⟨a, b, c⟩ := pEnd_facts h
  unfold pText
  by_cases e : pEnd s < s.size
  · rw [if_pos e]
    have h3 := h2 e
    have hs : pScale s = ndig s (pEnd s + 1) := if_pos e
    obtain ⟨n1, _⟩ := nd_all s _ (pEnd s + 1) rfl
    refine allDig_app (allDig_sub b c) (allDig_sub (Nat.le_refl _) fun k h4 h5 => ?_)
    have := n1 (k - (pEnd s + 1)) (by omega)
    rw [show pEnd s + 1 + (k - (pEnd s + 1)) = k by omega] at this
    exact (digAt_iff.1 this).2
  · rw [if_neg e]
    exact allDig_sub (Nat.le_refl _) fun k h4 h5 => c k h4 (by omega)
theorem dropWhile_nil {l : List UInt8} {c : UInt8} : l.dropWhile (· == c) = [] ↔ ∀ b ∈ l, b = c := by
  induction l with
  | nil => simp
  | cons x l ih =>
    rw [List.dropWhile_cons]
    by_cases hx : x = c
    · subst hx
      simp [ih]
    · simp [hx]
theorem trimB_nil {l : List UInt8} {c : UInt8} : Lib.trimB l c = [] ↔ ∀ b ∈ l, b = c := by
  constructor
  · intro h
    have h1 := dropWhile_nil.1 h
    have h2 : Lib.trimRightB l c = [] := by
      cases e : l.reverse.dropWhile (· == c) with
      | nil => unfold Lib.trimRightB; rw [e]; rfl
      | cons b m =>
        have hb := dropWhile_head b m e
        refine absurd (h1 b ?_) hb
        unfold Lib.trimRightB
        rw [e]
        simp
    unfold Lib.trimRightB at h2
    have h3 := dropWhile_nil.1 (List.reverse_eq_nil_iff.1 h2)
    exact fun b hb => h3 b (by simpa using hb)
  · intro h
    have h2 : l.reverse.dropWhile (· == c) = [] := dropWhile_nil.2 fun b hb => h b (by simpa using hb)
    unfold Lib.trimB Lib.trimRightB Lib.trimLeftB
    rw [h2]
    rfl
theorem trimB_empty {s : ByteArray} (h : AllDig s) : (⟨(Lib.trimB s.data.toList 48).toArray⟩ : ByteArray).toList.isEmpty = decide (dval s = 0) := by
  have hz : dval s = 0 ↔ Lib.trimB s.data.toList 48 = [] := by
    rw [trimB_nil, ← dropWhile_nil, ← noNought_list]
    constructor
    · intro h0
      by_cases e : 0 < (noNought s).size
      · exact absurd h0 (noNought_some h e).2
      · exact List.eq_nil_of_length_eq_zero (by rw [← Lib.size_eq]; omega)
    · intro h0
      exact noNought_none (by rw [Lib.size_eq, h0]; rfl)
  rw [Lib.toList_data]
  rw [Bool.eq_iff_iff, List.isEmpty_iff, decide_eq_true_iff, hz]
end Go.Proofs.YtgccppilhbannaaDoor
