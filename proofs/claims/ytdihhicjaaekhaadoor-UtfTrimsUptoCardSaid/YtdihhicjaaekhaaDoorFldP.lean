/-
  What stands between blanks: the plain law of Fields. No program in sight.
-/
import Derived.Test.YtdihhicjaaekhaaDoorUtfP
namespace Go.Proofs.YtdihhicjaaekhaaDoor
open Go.PlainAid

/-- What lies ahead of a place: the fields that are over, and where one is open. -/
def fldS (s : ByteArray) : Nat → List (Nat × Nat) × Option Nat
  | 0 => ([], none)
  | i + 1 => if bBlank (bt s i) = true then ((fldS s i).1 ++ ((fldS s i).2.map fun f => (f, i)).toList, none) else ((fldS s i).1, some ((fldS s i).2.getD i))
/-- The fields if the text were over at a place. -/
def fldC (s : ByteArray) (i : Nat) : List (Nat × Nat) := (fldS s i).1 ++ ((fldS s i).2.map fun f => (f, i)).toList
/-- All fields of a text. -/
def flds (s : ByteArray) : List (Nat × Nat) := fldC s s.size
theorem fldS_zero (s : ByteArray) : fldS s 0 = ([], none) := rfl
theorem fldS_blank {s : ByteArray} {i : Nat} (h : bBlank (bt s i) = true) : fldS s (i + 1) = (fldC s i, none) := by
  show (if _ then _ else _) = _
  rw [if_pos h]
  rfl
theorem fldS_non {s : ByteArray} {i : Nat} (h : bBlank (bt s i) = false) : fldS s (i + 1) = ((fldS s i).1, some ((fldS s i).2.getD i)) := by
  show (if _ then _ else _) = _
  rw [if_neg (by rw [h]; decide)]
theorem fldC_none {s : ByteArray} {i : Nat} {l : List (Nat × Nat)} (h : fldS s i = (l, none)) : fldC s i = l := by
  unfold fldC
  rw [h]
  simp
theorem fldC_some {s : ByteArray} {i f : Nat} {l : List (Nat × Nat)} (h : fldS s i = (l, some f)) : fldC s i = l ++ [(f, i)] := by
  unfold fldC
  rw [h]
  simp
theorem fldS_open {s : ByteArray} : ∀ {i f : Nat} {l : List (Nat × Nat)}, fldS s i = (l, some f) → f < i ∧ ∀ k, f ≤ k → k < i → bBlank (bt s k) = false
  | 0, f, l, h => by rw [fldS_zero] at h; cases h
  | i + 1, f, l, h => by
    cases hb : bBlank (bt s i) with
    | true => rw [fldS_blank hb] at h; cases h
    | false =>
      rw [fldS_non hb] at h
      cases hp : fldS s i with
      | mk l' o =>
        rw [hp] at h
        cases o with
        | none =>
          simp at h
          obtain ⟨rfl, rfl⟩ := h
          refine ⟨by omega, fun k h1 h2 => ?_⟩
          obtain rfl : k = i := by omega
          exact hb
        | some g =>
          simp at h
          obtain ⟨rfl, rfl⟩ := h
          have ih := fldS_open hp
          refine ⟨by omega, fun k h1 h2 => ?_⟩
          by_cases hk : k = i
          · subst hk; exact hb
          · exact ih.2 k h1 (by omega)
theorem fldS_pre {s : ByteArray} {i : Nat} : ∀ j, (fldS s i).1 <+: (fldS s (i + j)).1
  | 0 => List.prefix_refl _
  | j + 1 => by
    refine (fldS_pre (s := s) (i := i) j).trans ?_
    rw [← Nat.add_assoc]
    cases hb : bBlank (bt s (i + j)) with
    | true => rw [fldS_blank hb]; exact List.prefix_append _ _
    | false => rw [fldS_non hb]; exact List.prefix_refl _
theorem fldS_flds {s : ByteArray} {i : Nat} (h : i ≤ s.size) : (fldS s i).1 <+: flds s := by
  have h1 := fldS_pre (s := s) (i := i) (s.size - i)
  rw [show i + (s.size - i) = s.size by omega] at h1
  exact h1.trans (List.prefix_append _ _)
theorem fldC_flds {s : ByteArray} {i : Nat} (h : i ≤ s.size) (h' : i < s.size → bBlank (bt s i) = true) : fldC s i <+: flds s := by
  by_cases hi : i = s.size
  · rw [hi]; exact List.prefix_refl _
  · have h1 := fldS_flds (s := s) (i := i + 1) (by omega)
    rw [fldS_blank (h' (by omega))] at h1
    exact h1
theorem fld_len {s : ByteArray} {i f : Nat} {l : List (Nat × Nat)} (h : i ≤ s.size) (h' : i < s.size → bBlank (bt s i) = true) (hs : fldS s i = (l, some f)) : l.length < (flds s).length := by
  have h1 := (fldC_flds h h').length_le
  rw [fldC_some hs] at h1
  simp at h1
  omega
theorem fldS_ok {s : ByteArray} : ∀ {i : Nat}, ∀ x ∈ (fldS s i).1, x.1 < x.2 ∧ x.2 ≤ i ∧ ∀ k, x.1 ≤ k → k < x.2 → bBlank (bt s k) = false
  | 0, x, hx => by rw [fldS_zero] at hx; cases hx
  | i + 1, x, hx => by
    have ih := fldS_ok (s := s) (i := i)
    cases hb : bBlank (bt s i) with
    | false =>
      rw [fldS_non hb] at hx
      have := ih x hx
      exact ⟨this.1, by omega, this.2.2⟩
    | true =>
      rw [fldS_blank hb] at hx
      cases hp : fldS s i with
      | mk l o =>
        rw [hp] at ih
        cases o with
        | none =>
          rw [fldC_none hp] at hx
          have := ih x hx
          exact ⟨this.1, by omega, this.2.2⟩
        | some f =>
          rw [fldC_some hp] at hx
          rcases List.mem_append.1 hx with h | h
          · have := ih x h
            exact ⟨this.1, by omega, this.2.2⟩
          · obtain rfl : x = (f, i) := by simpa using h
            have := fldS_open hp
            exact ⟨this.1, by simp, this.2⟩
theorem flds_ok {s : ByteArray} : ∀ x ∈ flds s, x.1 < x.2 ∧ x.2 ≤ s.size ∧ ∀ k, x.1 ≤ k → k < x.2 → bBlank (bt s k) = false := by
  intro x hx
  unfold flds at hx
  cases hp : fldS s s.size with
  | mk l o =>
    have ih := fldS_ok (s := s) (i := s.size)
    rw [hp] at ih
    cases o with
    | none => rw [fldC_none hp] at hx; exact ih x hx
    | some f =>
      rw [fldC_some hp] at hx
      rcases List.mem_append.1 hx with h | h
      · exact ih x h
      · obtain rfl : x = (f, s.size) := by simpa using h
        have := fldS_open hp
        exact ⟨this.1, Nat.le_refl _, this.2⟩
theorem fldS_len {s : ByteArray} : ∀ {i : Nat}, (fldS s i).1.length + ((fldS s i).2.toList).length ≤ i
  | 0 => by rw [fldS_zero]; simp
  | i + 1 => by
    have ih := fldS_len (s := s) (i := i)
    cases hb : bBlank (bt s i) with
    | false =>
      rw [fldS_non hb]
      cases hp : fldS s i with
      | mk l o =>
        rw [hp] at ih
        simp at ih ⊢
        omega
    | true =>
      rw [fldS_blank hb]
      unfold fldC
      cases hp : fldS s i with
      | mk l o =>
        rw [hp] at ih
        cases o <;> simp at ih ⊢ <;> omega
theorem flds_len (s : ByteArray) : (flds s).length ≤ s.size := by
  have ih := fldS_len (s := s) (i := s.size)
  unfold flds fldC
  cases hp : fldS s s.size with
  | mk l o =>
    rw [hp] at ih
    cases o <;> simp at ih ⊢ <;> omega
/-- A field as it is told: its place, its text. -/
def fldV (s : ByteArray) (x : Nat × Nat) : Int × ByteArray := ((x.1 : Int), s.extract x.1 x.2)
end Go.Proofs.YtdihhicjaaekhaaDoor
