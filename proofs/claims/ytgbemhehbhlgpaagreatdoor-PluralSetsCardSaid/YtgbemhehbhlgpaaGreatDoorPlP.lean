/-
  Rules for numbers: the plain law: tokens of a text, numbers, relations, rules. No program in sight.
-/
import Derived.Test.YtgbemhehbhlgpaaGreatDoorPlDj
namespace Go.Proofs.YtgbemhehbhlgpaaGreatDoor
open Go.PlainAid

/-- The end of the run of bytes of a kind, from a place on. -/
def spF (p : Int → Bool) (s : ByteArray) : Nat → Nat → Nat
  | 0, i => i
  | f + 1, i => if i < s.size ∧ p (bt s i) = true then spF p s f (i + 1) else i
def spTo (p : Int → Bool) (s : ByteArray) (i : Nat) : Nat := spF p s (s.size - i) i
theorem spTo_go {p : Int → Bool} {s : ByteArray} {i : Nat} (h : i < s.size) (hb : p (bt s i) = true) : spTo p s i = spTo p s (i + 1) := by
  unfold spTo
  rw [show s.size - i = (s.size - (i + 1)) + 1 by omega]
  show (if _ then _ else _) = _
  rw [if_pos ⟨h, hb⟩]
theorem spTo_stop {p : Int → Bool} {s : ByteArray} {i : Nat} (h : ¬ (i < s.size ∧ p (bt s i) = true)) : spTo p s i = i := by
  unfold spTo
  cases hf : s.size - i with
  | zero => rfl
  | succ f =>
    show (if _ then _ else _) = _
    rw [if_neg h]
theorem spTo_ge {p : Int → Bool} {s : ByteArray} : ∀ (f i : Nat), s.size - i = f → i ≤ spTo p s i ∧ (i ≤ s.size → spTo p s i ≤ s.size)
  | 0, i, h => by rw [spTo_stop (by omega)]; exact ⟨Nat.le_refl _, id⟩
  | f + 1, i, h => by
    by_cases hb : p (bt s i) = true
    · rw [spTo_go (by omega) hb]
      have := spTo_ge (p := p) (s := s) f (i + 1) (by omega)
      exact ⟨by omega, fun _ => this.2 (by omega)⟩
    · rw [spTo_stop (fun h => hb h.2)]
      exact ⟨Nat.le_refl _, id⟩
theorem spTo_le {p : Int → Bool} {s : ByteArray} (i : Nat) : i ≤ spTo p s i := (spTo_ge _ i rfl).1
theorem spTo_in {p : Int → Bool} {s : ByteArray} {i : Nat} (h : i ≤ s.size) : spTo p s i ≤ s.size := (spTo_ge _ i rfl).2 h
theorem spTo_all {p : Int → Bool} {s : ByteArray} : ∀ (f i : Nat), s.size - i = f → ∀ j, i ≤ j → j < spTo p s i → j < s.size ∧ p (bt s j) = true
  | 0, i, h, j, h1, h2 => by rw [spTo_stop (by omega)] at h2; omega
  | f + 1, i, h, j, h1, h2 => by
    by_cases hb : p (bt s i) = true
    · rw [spTo_go (by omega) hb] at h2
      by_cases e : j = i
      · subst e; exact ⟨by omega, hb⟩
      · exact spTo_all f (i + 1) (by omega) j (by omega) h2
    · rw [spTo_stop (fun h => hb h.2)] at h2
      omega
theorem spTo_end {p : Int → Bool} {s : ByteArray} : ∀ (f i : Nat), s.size - i = f → ¬ (spTo p s i < s.size ∧ p (bt s (spTo p s i)) = true)
  | 0, i, h => by rw [spTo_stop (by omega)]; omega
  | f + 1, i, h => by
    by_cases hb : p (bt s i) = true
    · rw [spTo_go (by omega) hb]
      exact spTo_end f (i + 1) (by omega)
    · rw [spTo_stop (fun h => hb h.2)]
      exact fun h => hb h.2
theorem spTo_idem {p : Int → Bool} {s : ByteArray} (i : Nat) : spTo p s (spTo p s i) = spTo p s i := spTo_stop (spTo_end _ i rfl)

def bBl (c : Int) : Bool := decide (c = 32)
def bDg (c : Int) : Bool := decide (48 ≤ c ∧ c ≤ 57)
def bLo (c : Int) : Bool := decide (97 ≤ c ∧ c ≤ 122)
/-- How many bytes the token has that begins at a place; 0: the end. -/
def tkN (s : ByteArray) (a : Nat) : Nat :=
  if ¬ a < s.size ∨ bt s a = 64 then 0
  else if bDg (bt s a) = true then spTo bDg s a - a
  else if bLo (bt s a) = true then spTo bLo s a - a
  else if a + 1 < s.size ∧ ((bt s a = 33 ∧ bt s (a + 1) = 61) ∨ (bt s a = 46 ∧ bt s (a + 1) = 46)) then 2 else 1
/-- The token behind one. -/
def tkG (s : ByteArray) (i : Nat) : Nat := spTo bBl s i
def nx (s : ByteArray) (a : Nat) : Nat := tkG s (a + tkN s a)
def tx (s : ByteArray) (a : Nat) : ByteArray := s.extract a (a + tkN s a)
theorem tkN_in {s : ByteArray} {a : Nat} (h : a ≤ s.size) : a + tkN s a ≤ s.size := by
  unfold tkN
  split
  · omega
  · split
    · have := spTo_in (p := bDg) (s := s) h; have := spTo_le (p := bDg) (s := s) a; omega
    · split
      · have := spTo_in (p := bLo) (s := s) h; have := spTo_le (p := bLo) (s := s) a; omega
      · split <;> omega
theorem tkN_pos {s : ByteArray} {a : Nat} (h : a < s.size) (h64 : bt s a ≠ 64) : 1 ≤ tkN s a := by
  unfold tkN
  rw [if_neg (by omega)]
  split
  · rename_i hd
    rw [spTo_go h hd]
    have := spTo_le (p := bDg) (s := s) (a + 1)
    omega
  · split
    · rename_i hd
      rw [spTo_go h hd]
      have := spTo_le (p := bLo) (s := s) (a + 1)
      omega
    · split <;> omega
theorem tkN_zero {s : ByteArray} {a : Nat} : tkN s a = 0 ↔ ¬ a < s.size ∨ bt s a = 64 := by
  constructor
  · intro h
    by_cases g : ¬ a < s.size ∨ bt s a = 64
    · exact g
    · have := tkN_pos (s := s) (a := a) (by omega) (fun e => g (.inr e))
      omega
  · intro h
    unfold tkN
    rw [if_pos h]
theorem tx_size {s : ByteArray} {a : Nat} (h : a ≤ s.size) : (tx s a).size = tkN s a := by
  have := tkN_in h
  unfold tx
  rw [size_sub _ _ _ (by omega)]
  omega
theorem nx_in {s : ByteArray} {a : Nat} (h : a ≤ s.size) : nx s a ≤ s.size := spTo_in (tkN_in h)
theorem nx_ge {s : ByteArray} {a : Nat} : a + tkN s a ≤ nx s a := spTo_le _
theorem nx_more {s : ByteArray} {a : Nat} (h : tkN s a ≠ 0) : a + 1 ≤ nx s a := by have := nx_ge (s := s) (a := a); omega

/-- The number of a token, if it is one. -/
def numOf (t : ByteArray) : Option Nat := if 1 ≤ t.size ∧ t.size ≤ 9 ∧ (∀ i, i < t.size → bDg (bt t i) = true) ∧ ¬ (1 < t.size ∧ bt t 0 = 48) then some (dval t) else none
/-- A relation: its operand's letter, what it is divided by, whether it is turned, its ranges. -/
structure Rl where
  op : Int
  by_ : Nat
  nt : Bool
  rs : List (Nat × Nat)
/-- Ranges from a place on, behind some: the place behind them, the ranges, their text; none: the place at which something is wrong. -/
inductive Pr (α : Type) where
  | bad (at_ : Nat)
  | ok (at_ : Nat) (x : α) (t : ByteArray)
def rngF (s : ByteArray) : Nat → Nat → List (Nat × Nat) → ByteArray → Pr (List (Nat × Nat))
  | 0, a, _, _ => .bad a
  | f + 1, a, l, t =>
    match numOf (tx s a) with
    | none => .bad a
    | some n =>
      if tx s (nx s a) = ⟨#[46, 46]⟩ then
        match numOf (tx s (nx s (nx s a))) with
        | none => .bad (nx s (nx s a))
        | some m =>
          if tx s (nx s (nx s (nx s a))) = ⟨#[44]⟩ then rngF s f (nx s (nx s (nx s (nx s a)))) (l ++ [(n, m)]) (t ++ tx s a ++ (⟨#[46, 46]⟩ ++ tx s (nx s (nx s a))) ++ ⟨#[44]⟩)
          else .ok (nx s (nx s (nx s a))) (l ++ [(n, m)]) (t ++ tx s a ++ (⟨#[46, 46]⟩ ++ tx s (nx s (nx s a))))
      else if tx s (nx s a) = ⟨#[44]⟩ then rngF s f (nx s (nx s a)) (l ++ [(n, n)]) (t ++ tx s a ++ ⟨#[44]⟩)
      else .ok (nx s a) (l ++ [(n, n)]) (t ++ tx s a)
def rngR (s : ByteArray) (a : Nat) (l : List (Nat × Nat)) (t : ByteArray) : Pr (List (Nat × Nat)) := rngF s (s.size - a + 1) a l t
/-- The operand's letter, if a text is one. -/
def opOf (t : ByteArray) : Option Int := if t.size = 1 ∧ (bt t 0 = 110 ∨ bt t 0 = 105 ∨ bt t 0 = 102 ∨ bt t 0 = 116 ∨ bt t 0 = 118 ∨ bt t 0 = 119) then some (bt t 0) else none
/-- What stands behind the operand and what it is divided by. -/
def relT (s : ByteArray) (o : Int) (b : Nat) (a : Nat) (t : ByteArray) : Pr Rl :=
  if tx s a = ⟨#[61]⟩ ∨ tx s a = ⟨#[33, 61]⟩ then
    match rngR s (nx s a) [] (t ++ (⟨#[32]⟩ ++ tx s a ++ ⟨#[32]⟩)) with
    | .bad p => .bad p
    | .ok p l t => .ok p ⟨o, b, decide (tx s a = ⟨#[33, 61]⟩), l⟩ t
  else .bad a
def relR (s : ByteArray) (a : Nat) (t : ByteArray) : Pr Rl :=
  match opOf (tx s a) with
  | none => .bad a
  | some o =>
    if tx s (nx s a) = ⟨#[37]⟩ then
      match numOf (tx s (nx s (nx s a))) with
      | none => .bad (nx s (nx s a))
      | some n => relT s o n (nx s (nx s (nx s a))) (t ++ tx s a ++ (⟨#[32, 37, 32]⟩ ++ tx s (nx s (nx s a))))
    else relT s o 0 (nx s a) (t ++ tx s a)
def andB : ByteArray := ⟨#[97, 110, 100]⟩
def orB : ByteArray := ⟨#[111, 114]⟩
/-- A relation put behind rows. -/
def putRow (any : List (List Rl)) (x : Rl) : List (List Rl) := any.dropLast ++ [any.getLastD [] ++ [x]]
def jointT (t j : ByteArray) : ByteArray := if 0 < t.size then t ++ (⟨#[32]⟩ ++ j ++ ⟨#[32]⟩) else t
def ruleF (s : ByteArray) : Nat → Nat → List (List Rl) → ByteArray → ByteArray → Pr (List (List Rl))
  | 0, a, _, _, _ => .bad a
  | f + 1, a, any, t, j =>
    match relR s a (jointT t j) with
    | .bad p => .bad p
    | .ok p r t' =>
      if tx s p = andB ∨ tx s p = orB then ruleF s f (nx s p) (putRow (if j = orB then any ++ [[]] else any) r) t' (tx s p)
      else if (tx s p).size = 0 then .ok p (putRow (if j = orB then any ++ [[]] else any) r) t'
      else .bad p
/-- The rule of a text. -/
def ruleP (s : ByteArray) : Pr (List (List Rl)) :=
  if (tx s (tkG s 0)).size = 0 then .ok (tkG s 0) [[]] ⟨#[]⟩ else ruleF s (s.size + 1) (tkG s 0) [] ⟨#[]⟩ orB

/-- Does a relation hold for what its operand, divided, is? -/
def inRs (rs : List (Nat × Nat)) (q : Nat) : Bool := rs.any fun x => decide (x.1 ≤ q ∧ q ≤ x.2)
end Go.Proofs.YtgbemhehbhlgpaaGreatDoor
