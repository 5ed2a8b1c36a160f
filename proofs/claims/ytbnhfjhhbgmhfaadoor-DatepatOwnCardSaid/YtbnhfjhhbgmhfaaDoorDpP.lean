/-
  Patterns of dates: the plain law of Parse. No program in sight.
-/
import Derived.Test.YtbnhfjhhbgmhfaaDoorUtfQ
namespace Go.Proofs.YtbnhfjhhbgmhfaaDoor
open Go.PlainAid

/-- A field: its letter, its count, its text. -/
abbrev PF := Int × Int × ByteArray
def rankB (b : Int) : Nat :=
  if b = 71 then 1 else if b = 121 then 2 else if b = 77 ∨ b = 76 then 3 else if b = 119 then 4 else if b = 69 ∨ b = 99 then 5 else if b = 100 then 6 else if b = 68 then 7 else if b = 97 ∨ b = 98 then 8
  else if b = 104 ∨ b = 72 ∨ b = 75 ∨ b = 107 then 9 else if b = 109 then 10 else if b = 115 then 11 else if b = 83 then 12 else if b = 90 ∨ b = 120 then 13 else 0
theorem ite_le' {p : Prop} [Decidable p] {a b n : Nat} (ha : a ≤ n) (hb : b ≤ n) : (if p then a else b) ≤ n := by
  by_cases h : p
  · rw [if_pos h]; exact ha
  · rw [if_neg h]; exact hb
theorem rankB_le (b : Int) : rankB b ≤ 13 := by
  unfold rankB
  repeat (refine ite_le' (by decide) ?_)
  decide
def mostN (r : Nat) : Nat := [0, 5, 9, 5, 2, 6, 2, 3, 5, 2, 2, 2, 9, 5].getD r 0
theorem mostN_le : ∀ r, mostN r ≤ 9 := by
  intro r
  by_cases h : r < 14
  · have : ∀ r : Fin 14, mostN r.val ≤ 9 := by decide
    exact this ⟨r, h⟩
  · unfold mostN
    rw [List.getD_eq_getElem?_getD, List.getElem?_eq_none (by simp; omega)]
    decide

/-- The end of the run of a byte from a place on. -/
def runE (s : ByteArray) (b : Int) : Nat → Nat → Nat
  | 0, i => i
  | f + 1, i => if i < s.size ∧ bt s i = b then runE s b f (i + 1) else i
def runTo (s : ByteArray) (b : Int) (i : Nat) : Nat := runE s b (s.size - i) i
theorem runTo_go {s : ByteArray} {b : Int} {i : Nat} (h : i < s.size) (hb : bt s i = b) : runTo s b i = runTo s b (i + 1) := by
  unfold runTo
  rw [show s.size - i = (s.size - (i + 1)) + 1 by omega]
  show (if _ then _ else _) = _
  rw [if_pos ⟨h, hb⟩]
theorem runTo_stop {s : ByteArray} {b : Int} {i : Nat} (h : ¬ (i < s.size ∧ bt s i = b)) : runTo s b i = i := by
  unfold runTo
  cases hf : s.size - i with
  | zero => rfl
  | succ f =>
    show (if _ then _ else _) = _
    rw [if_neg h]
theorem runTo_ge {s : ByteArray} {b : Int} : ∀ (f i : Nat), s.size - i = f → i ≤ runTo s b i ∧ (i ≤ s.size → runTo s b i ≤ s.size)
  | 0, i, h => by rw [runTo_stop (by omega)]; exact ⟨Nat.le_refl _, id⟩
  | f + 1, i, h => by
    by_cases hb : bt s i = b
    · rw [runTo_go (by omega) hb]
      have := runTo_ge (s := s) (b := b) f (i + 1) (by omega)
      exact ⟨by omega, fun _ => this.2 (by omega)⟩
    · rw [runTo_stop (fun h => hb h.2)]
      exact ⟨Nat.le_refl _, id⟩

/-- A text put behind fields. -/
def putR (l : List PF) (t : ByteArray) : List PF :=
  match l.getLast? with
  | some x => if x.1 = 0 then l.dropLast ++ [(x.1, x.2.1, x.2.2 ++ t)] else l ++ [(0, 0, t)]
  | none => l ++ [(0, 0, t)]
theorem putR_text {l : List PF} {c : Int} {u t : ByteArray} : putR (l ++ [(0, c, u)]) t = l ++ [(0, c, u ++ t)] := by
  unfold putR
  simp
theorem putR_letter {l : List PF} {b c : Int} {u t : ByteArray} (h : b ≠ 0) : putR (l ++ [(b, c, u)]) t = l ++ [(b, c, u)] ++ [(0, 0, t)] := by
  unfold putR
  simp [h]
theorem putR_nil (t : ByteArray) : putR [] t = [(0, 0, t)] := rfl
theorem putR_putR (l : List PF) (t u : ByteArray) : putR (putR l t) u = putR l (t ++ u) := by
  rcases List.eq_nil_or_concat l with rfl | ⟨l', x, rfl⟩
  · rw [putR_nil, putR_nil]
    exact putR_text (l := [])
  · obtain ⟨b, c, v⟩ := x
    rw [List.concat_eq_append]
    by_cases h : b = 0
    · subst h
      rw [putR_text, putR_text, putR_text, ByteArray.append_assoc]
    · rw [putR_letter h, putR_letter h, putR_text]
theorem putR_length (l : List PF) (t : ByteArray) : (putR l t).length ≤ l.length + 1 := by
  unfold putR
  split
  · split <;> simp
  · simp

/-- What a quote holds, from a place on, and the place behind its end. -/
def qF (s : ByteArray) : Nat → Nat → ByteArray → Option (ByteArray × Nat)
  | 0, _, _ => none
  | f + 1, i, acc => if i < s.size then (if bt s i = 39 then (if i + 1 < s.size ∧ bt s (i + 1) = 39 then qF s f (i + 2) (acc ++ ⟨#[39]⟩) else some (acc, i + 1)) else qF s f (i + 1) (acc ++ s.extract i (i + 1))) else none
theorem qF_more (s : ByteArray) : ∀ f g i acc, s.size ≤ i + f → s.size ≤ i + g → qF s f i acc = qF s g i acc
  | 0, 0, _, _, _, _ => rfl
  | 0, g + 1, i, acc, h1, _ => by
    show none = (if _ then _ else _)
    rw [if_neg (by omega)]
  | f + 1, 0, i, acc, _, h2 => by
    show (if _ then _ else _) = none
    rw [if_neg (by omega)]
  | f + 1, g + 1, i, acc, h1, h2 => by
    show (if _ then _ else _) = (if _ then _ else _)
    rw [qF_more s f g (i + 2) _ (by omega) (by omega), qF_more s f g (i + 1) _ (by omega) (by omega)]
def qR (s : ByteArray) (i : Nat) (acc : ByteArray) : Option (ByteArray × Nat) := qF s (s.size - i) i acc
theorem qR_end {s : ByteArray} {i : Nat} {acc : ByteArray} (h : ¬ i < s.size) : qR s i acc = none := by
  unfold qR
  rw [show s.size - i = 0 by omega]
  rfl
theorem qR_step {s : ByteArray} {i : Nat} {acc : ByteArray} (h : i < s.size) : qR s i acc = if bt s i = 39 then (if i + 1 < s.size ∧ bt s (i + 1) = 39 then qR s (i + 2) (acc ++ ⟨#[39]⟩) else some (acc, i + 1)) else qR s (i + 1) (acc ++ s.extract i (i + 1)) := by
  unfold qR
  rw [show s.size - i = (s.size - (i + 1)) + 1 by omega]
  show (if _ then _ else _) = _
  rw [if_pos h, qF_more s (s.size - (i + 1)) (s.size - (i + 2)) (i + 2) _ (by omega) (by omega)]
theorem qR_plain {s : ByteArray} {i : Nat} {acc : ByteArray} (h : i < s.size) (hb : bt s i ≠ 39) : qR s i acc = qR s (i + 1) (acc ++ s.extract i (i + 1)) := by rw [qR_step h, if_neg hb]
theorem qR_two {s : ByteArray} {i : Nat} {acc : ByteArray} (h : i + 1 < s.size) (hb : bt s i = 39) (hb2 : bt s (i + 1) = 39) : qR s i acc = qR s (i + 2) (acc ++ ⟨#[39]⟩) := by rw [qR_step (by omega), if_pos hb, if_pos ⟨h, hb2⟩]
theorem qR_close {s : ByteArray} {i : Nat} {acc : ByteArray} (h : i < s.size) (hb : bt s i = 39) (h2 : ¬ (i + 1 < s.size ∧ bt s (i + 1) = 39)) : qR s i acc = some (acc, i + 1) := by rw [qR_step h, if_pos hb, if_neg h2]
theorem qR_some {s : ByteArray} : ∀ (f i : Nat) (acc : ByteArray) (t : ByteArray) (j : Nat), s.size - i = f → qR s i acc = some (t, j) → i < j ∧ j ≤ s.size ∧ acc.size ≤ t.size ∧ t.size + i ≤ acc.size + j
  | f, i, acc, t, j, hf, h => by
    by_cases hi : i < s.size
    · by_cases hb : bt s i = 39
      · by_cases h2 : i + 1 < s.size ∧ bt s (i + 1) = 39
        · rw [qR_two h2.1 hb h2.2] at h
          have hs : (acc ++ (⟨#[39]⟩ : ByteArray)).size = acc.size + 1 := by rw [ByteArray.size_append]; rfl
          have ih := qR_some (s.size - (i + 2)) (i + 2) _ t j rfl h
          omega
        · rw [qR_close hi hb h2] at h
          have := Option.some.inj h
          injection this with e1 e2
          subst e1 e2
          omega
      · rw [qR_plain hi hb] at h
        have hs : (acc ++ s.extract i (i + 1)).size = acc.size + 1 := by rw [ByteArray.size_append]; simp; omega
        have ih := qR_some (s.size - (i + 1)) (i + 1) _ t j rfl h
        omega
    · rw [qR_end hi] at h
      cases h
  termination_by f => f
  decreasing_by all_goals omega

/-- Fields read from a place on: the fields, an error's number, a place. -/
def pF (s : ByteArray) : Nat → Nat → List PF → List PF × Int × Int
  | 0, _, l => (l, 0, 0)
  | f + 1, i, l =>
    if i < s.size then
      (if bLetter (bt s i) = true then
        (if rankB (bt s i) = 0 ∨ mostN (rankB (bt s i)) < runTo s (bt s i) i - i then ([], 270, (i : Int)) else pF s f (runTo s (bt s i) i) (l ++ [(bt s i, ((runTo s (bt s i) i - i : Nat) : Int), ⟨#[]⟩)]))
      else if bt s i ≠ 39 then pF s f (i + 1) (putR l (s.extract i (i + 1)))
      else if i + 1 < s.size ∧ bt s (i + 1) = 39 then pF s f (i + 2) (putR l ⟨#[39]⟩)
      else match qR s (i + 1) ⟨#[]⟩ with
        | none => ([], 271, (i : Int))
        | some (t, j) => pF s f j (putR l t))
    else (l, 0, 0)
theorem runTo_more {s : ByteArray} {i : Nat} (h : i < s.size) : i + 1 ≤ runTo s (bt s i) i := by
  rw [runTo_go h rfl]
  exact (runTo_ge _ (i + 1) rfl).1
theorem pF_more (s : ByteArray) : ∀ f g i l, s.size ≤ i + f → s.size ≤ i + g → pF s f i l = pF s g i l
  | 0, 0, _, _, _, _ => rfl
  | 0, g + 1, i, l, h1, _ => by
    show _ = (if _ then _ else _)
    rw [if_neg (by omega)]
    rfl
  | f + 1, 0, i, l, _, h2 => by
    show (if _ then _ else _) = _
    rw [if_neg (by omega)]
    rfl
  | f + 1, g + 1, i, l, h1, h2 => by
    show (if _ then _ else _) = (if _ then _ else _)
    by_cases hi : i < s.size
    · have hr := runTo_more hi
      rw [if_pos hi, if_pos hi, pF_more s f g (runTo s (bt s i) i) _ (by omega) (by omega), pF_more s f g (i + 1) _ (by omega) (by omega), pF_more s f g (i + 2) _ (by omega) (by omega)]
      cases hq : qR s (i + 1) ⟨#[]⟩ with
      | none => rfl
      | some x =>
        obtain ⟨t, j⟩ := x
        have := qR_some _ _ _ _ _ rfl hq
        simp only [pF_more s f g j _ (by omega) (by omega)]
    · rw [if_neg hi, if_neg hi]
def pR (s : ByteArray) (i : Nat) (l : List PF) : List PF × Int × Int := pF s (s.size - i) i l
theorem pR_end {s : ByteArray} {i : Nat} {l : List PF} (h : ¬ i < s.size) : pR s i l = (l, 0, 0) := by
  unfold pR
  rw [show s.size - i = 0 by omega]
  rfl
theorem pR_step {s : ByteArray} {i : Nat} {l : List PF} (h : i < s.size) : pR s i l =
    (if bLetter (bt s i) = true then
        (if rankB (bt s i) = 0 ∨ mostN (rankB (bt s i)) < runTo s (bt s i) i - i then ([], 270, (i : Int)) else pR s (runTo s (bt s i) i) (l ++ [(bt s i, ((runTo s (bt s i) i - i : Nat) : Int), ⟨#[]⟩)]))
      else if bt s i ≠ 39 then pR s (i + 1) (putR l (s.extract i (i + 1)))
      else if i + 1 < s.size ∧ bt s (i + 1) = 39 then pR s (i + 2) (putR l ⟨#[39]⟩)
      else match qR s (i + 1) ⟨#[]⟩ with
        | none => ([], 271, (i : Int))
        | some (t, j) => pR s j (putR l t)) := by
  have hr := runTo_more h
  unfold pR
  conv => lhs; rw [show s.size - i = (s.size - (i + 1)) + 1 by omega]
  show (if _ then _ else _) = _
  rw [if_pos h, pF_more s (s.size - (i + 1)) (s.size - runTo s (bt s i) i) (runTo s (bt s i) i) _ (by omega) (by omega), pF_more s (s.size - (i + 1)) (s.size - (i + 2)) (i + 2) _ (by omega) (by omega)]
  cases hq : qR s (i + 1) ⟨#[]⟩ with
  | none => rfl
  | some x =>
    obtain ⟨t, j⟩ := x
    have := qR_some _ _ _ _ _ rfl hq
    simp only [pF_more s (s.size - (i + 1)) (s.size - j) j _ (by omega) (by omega)]
/-- What Parse hands back. -/
def dpParse (s : ByteArray) : List PF × Int × Int := if 4096 < s.size then ([], 3, 0) else if 0 ≤ brk s 0 then ([], 6, brk s 0) else pR s 0 []
end Go.Proofs.YtbnhfjhhbgmhfaaDoor
