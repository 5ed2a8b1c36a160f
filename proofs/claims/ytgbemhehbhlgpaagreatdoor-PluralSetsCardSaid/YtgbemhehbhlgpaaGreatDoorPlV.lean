/-
  Rules for numbers: the list of a text's tokens; text put ahead of what is read. No program in sight.
-/
import Derived.Test.YtgbemhehbhlgpaaGreatDoorPlK
import Derived.Test.YtgbemhehbhlgpaaGreatDoorGRow
namespace Go.Proofs.YtgbemhehbhlgpaaGreatDoor
open Go.PlainAid

def pos (s : ByteArray) : Nat → Nat
  | 0 => tkG s 0
  | j + 1 => nx s (pos s j)
theorem pos_in (s : ByteArray) : ∀ j, pos s j ≤ s.size
  | 0 => spTo_in (Nat.zero_le _)
  | j + 1 => nx_in (pos_in s j)
def tkE (s : ByteArray) (a : Nat) : ByteArray × Nat := (tx s a, a)
/-- The tokens from the j-th one on. -/
def tksF (s : ByteArray) : Nat → Nat → List (ByteArray × Nat)
  | 0, _ => []
  | f + 1, j => if tkN s (pos s j) = 0 then [tkE s (pos s j)] else tkE s (pos s j) :: tksF s f (j + 1)
def tks (s : ByteArray) : List (ByteArray × Nat) := tksF s (s.size + 1) 0
theorem tksF_at {s : ByteArray} : ∀ (f j : Nat) (L : List (ByteArray × Nat)), tksF s f j = L → s.size - pos s j + 1 ≤ f → 1 ≤ L.length ∧ (∀ i (hi : i < L.length), L[i] = tkE s (pos s (j + i)) ∧ (tkN s (pos s (j + i)) = 0 ↔ i + 1 = L.length))
  | 0, j, L, _, h => by omega
  | f + 1, j, L, hL, h => by
    unfold tksF at hL
    by_cases h0 : tkN s (pos s j) = 0
    · rw [if_pos h0] at hL
      subst hL
      refine ⟨by simp, fun i hi => ?_⟩
      have : i = 0 := by simp at hi; omega
      subst this
      exact ⟨rfl, by simp [h0]⟩
    · rw [if_neg h0] at hL
      subst hL
      have hm := nx_more (s := s) h0
      have hin := pos_in s (j + 1)
      have he : pos s (j + 1) = nx s (pos s j) := rfl
      have ih := tksF_at (s := s) f (j + 1) _ rfl (by omega)
      refine ⟨by simp, fun i hi => ?_⟩
      cases i with
      | zero => exact ⟨rfl, by simp [h0]; have := ih.1; intro e; rw [e] at this; simp at this⟩
      | succ i =>
        have := ih.2 i (by simp at hi; omega)
        rw [show j + (i + 1) = j + 1 + i by omega]
        exact ⟨by simpa using this.1, by rw [this.2]; simp⟩
theorem tks_len (s : ByteArray) : 1 ≤ (tks s).length := (tksF_at _ 0 _ rfl (by omega)).1
theorem tks_at {s : ByteArray} {j : Nat} (h : j < (tks s).length) : (tks s)[j] = tkE s (pos s j) := by
  have := ((tksF_at (s := s) (s.size + 1) 0 _ rfl (by omega)).2 j h).1
  rwa [Nat.zero_add] at this
theorem tks_end {s : ByteArray} {j : Nat} (h : j < (tks s).length) : tkN s (pos s j) = 0 ↔ j + 1 = (tks s).length := by
  have := ((tksF_at (s := s) (s.size + 1) 0 _ rfl (by omega)).2 j h).2
  rwa [Nat.zero_add] at this
theorem tks_more {s : ByteArray} {j : Nat} (h : j < (tks s).length) (hn : (tx s (pos s j)).size ≠ 0) : j + 1 < (tks s).length := by
  rw [tx_size (pos_in s j)] at hn
  have := tks_end h
  omega
theorem tksF_le {s : ByteArray} : ∀ (f j : Nat), (tksF s f j).length ≤ f
  | 0, j => Nat.le_refl _
  | f + 1, j => by
    unfold tksF
    split
    · simp
    · have := tksF_le (s := s) f (j + 1)
      simp
      omega
theorem tks_le (s : ByteArray) : (tks s).length ≤ s.size + 1 := tksF_le _ _
/-- The tokens up to the j-th one. -/
theorem tks_take {s : ByteArray} {j : Nat} (h : j < (tks s).length) : (tks s).take (j + 1) = (tks s).take j ++ [tkE s (pos s j)] := by
  rw [List.take_add_one, List.getElem?_eq_getElem h, tks_at h]
  rfl

/-- What is read, with text put ahead of it. -/
def Pr.pre {α : Type} (u : ByteArray) : Pr α → Pr α
  | .bad p => .bad p
  | .ok p x t => .ok p x (u ++ t)
theorem rngF_pre {s u : ByteArray} : ∀ (f a : Nat) (l : List (Nat × Nat)) (t : ByteArray), rngF s f a l (u ++ t) = (rngF s f a l t).pre u
  | 0, a, l, t => rfl
  | f + 1, a, l, t => by
    simp only [rngF]
    cases numOf (tx s a) with
    | none => rfl
    | some n =>
      simp only
      split
      · cases numOf (tx s (nx s (nx s a))) with
        | none => rfl
        | some m =>
          simp only
          split
          · rw [← rngF_pre f]; simp only [ByteArray.append_assoc]
          · simp only [Pr.pre, ByteArray.append_assoc]
      · split
        · rw [← rngF_pre f]; simp only [ByteArray.append_assoc]
        · simp only [Pr.pre, ByteArray.append_assoc]
theorem relT_pre {s u : ByteArray} {o : Int} {b a : Nat} {t : ByteArray} : relT s o b a (u ++ t) = (relT s o b a t).pre u := by
  unfold relT
  split
  · have h := rngF_pre (s := s) (u := u) (s.size - nx s a + 1) (nx s a) [] (t ++ (⟨#[32]⟩ ++ tx s a ++ ⟨#[32]⟩))
    unfold rngR
    rw [ByteArray.append_assoc, h]
    cases rngF s (s.size - nx s a + 1) (nx s a) [] (t ++ (⟨#[32]⟩ ++ tx s a ++ ⟨#[32]⟩)) <;> rfl
  · rfl
theorem relR_pre {s u : ByteArray} {a : Nat} {t : ByteArray} : relR s a (u ++ t) = (relR s a t).pre u := by
  unfold relR
  cases opOf (tx s a) with
  | none => rfl
  | some o =>
    simp only
    split
    · cases numOf (tx s (nx s (nx s a))) with
      | none => rfl
      | some n => simp only; rw [← relT_pre]; simp only [ByteArray.append_assoc]
    · rw [← relT_pre]; simp only [ByteArray.append_assoc]
end Go.Proofs.YtgbemhehbhlgpaaGreatDoor
