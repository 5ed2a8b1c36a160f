/-
  Patterns of dates: the plain law of Print: letters of a text, doubled quotes, the one form. No program in sight.
-/
import Derived.Test.YtbnhfjhhbgmhfaaDoorDpP
namespace Go.Proofs.YtbnhfjhhbgmhfaaDoor
open Go.PlainAid

/-- The first letter of a text, from a place on. -/
def fstF (t : ByteArray) : Nat → Nat → Int
  | 0, _ => -1
  | f + 1, i => if bLetter (bt t i) = true then (i : Int) else fstF t f (i + 1)
def fstL (t : ByteArray) : Int := fstF t t.size 0
/-- The last letter of a text's first bytes. -/
def lstF (t : ByteArray) : Nat → Int
  | 0 => -1
  | i + 1 => if bLetter (bt t i) = true then (i : Int) else lstF t i
def lstL (t : ByteArray) : Int := lstF t t.size
theorem fstF_split (t : ByteArray) : ∀ (a b i : Nat), fstF t (a + b) i = if fstF t a i < 0 then fstF t b (i + a) else fstF t a i
  | 0, b, i => by
    show fstF t (0 + b) i = if (-1 : Int) < 0 then _ else _
    rw [if_pos (by decide), Nat.zero_add, Nat.add_zero]
  | a + 1, b, i => by
    rw [show a + 1 + b = (a + b) + 1 by omega]
    show (if _ then _ else fstF t (a + b) (i + 1)) = if (if _ then _ else fstF t a (i + 1)) < 0 then _ else (if _ then _ else fstF t a (i + 1))
    by_cases h : bLetter (bt t i) = true
    · rw [if_pos h, if_pos h, if_neg (by omega)]
    · rw [if_neg h, if_neg h, fstF_split t a b (i + 1), show i + 1 + a = i + (a + 1) by omega]
theorem fstF_bd (t : ByteArray) : ∀ (f i : Nat), fstF t f i = -1 ∨ ((i : Int) ≤ fstF t f i ∧ fstF t f i < i + f)
  | 0, _ => .inl rfl
  | f + 1, i => by
    unfold fstF
    by_cases h : bLetter (bt t i) = true
    · rw [if_pos h]; right; omega
    · rw [if_neg h]
      rcases fstF_bd t f (i + 1) with h | h
      · exact .inl h
      · right; omega
theorem fstF_next (t : ByteArray) (k : Nat) : fstF t (k + 1) 0 = if fstF t k 0 < 0 then (if bLetter (bt t k) = true then (k : Int) else -1) else fstF t k 0 := by
  rw [fstF_split]
  show (if _ then (if _ then _ else fstF t 0 _) else _) = _
  rw [Nat.zero_add]
  rfl
theorem lstF_bd (t : ByteArray) : ∀ k : Nat, lstF t k = -1 ∨ (0 ≤ lstF t k ∧ lstF t k < k)
  | 0 => .inl rfl
  | k + 1 => by
    unfold lstF
    by_cases h : bLetter (bt t k) = true
    · rw [if_pos h]; right; omega
    · rw [if_neg h]
      rcases lstF_bd t k with h | h
      · exact .inl h
      · right; omega
theorem fst_lst (t : ByteArray) : ∀ k : Nat, (fstF t k 0 < 0 ↔ lstF t k < 0) ∧ fstF t k 0 ≤ lstF t k
  | 0 => ⟨Iff.rfl, Int.le_refl _⟩
  | k + 1 => by
    have ih := fst_lst t k
    have hf := fstF_bd t k 0
    have hl := lstF_bd t k
    rw [fstF_next, show lstF t (k + 1) = (if bLetter (bt t k) = true then (k : Int) else lstF t k) from rfl]
    by_cases h : bLetter (bt t k) = true
    · simp only [if_pos h]
      by_cases h0 : fstF t k 0 < 0
      · rw [if_pos h0]; omega
      · rw [if_neg h0]; omega
    · simp only [if_neg h]
      by_cases h0 : fstF t k 0 < 0
      · rw [if_pos h0]; omega
      · rw [if_neg h0]; omega

/-- A text with each quote doubled. -/
def dblB (t : ByteArray) : ByteArray := ⟨(t.data.toList.flatMap fun c => if c = 39 then [39, 39] else [c]).toArray⟩
/-- A text as it stands in a pattern, its first and its last letter told. -/
def dressB (t : ByteArray) (f l : Int) : ByteArray :=
  if f < 0 then dblB t else dblB (t.extract 0 f.toNat) ++ ⟨#[39]⟩ ++ dblB (t.extract f.toNat (l + 1).toNat) ++ ⟨#[39]⟩ ++ dblB (t.extract (l + 1).toNat t.size)
def dress (t : ByteArray) : ByteArray := dressB t (fstL t) (lstL t)
def repB (n : Nat) (b : Int) : ByteArray := ⟨(List.replicate n (UInt8.ofNat b.toNat)).toArray⟩
def pieceB (x : PF) : ByteArray := repB x.2.1.toNat x.1 ++ dress x.2.2
def printT (l : List PF) : ByteArray := l.foldl (fun acc x => acc ++ pieceB x) ⟨#[]⟩
theorem printT_snoc (l : List PF) (x : PF) : printT (l ++ [x]) = printT l ++ pieceB x := by unfold printT; rw [List.foldl_append]; rfl
theorem take_snoc' {α : Type} (l : List α) (k : Nat) (h : k < l.length) : l.take (k + 1) = l.take k ++ [l[k]] := List.take_succ_eq_append_getElem h
theorem printT_next (l : List PF) (k : Nat) (h : k < l.length) : printT (l.take (k + 1)) = printT (l.take k) ++ pieceB l[k] := by rw [take_snoc' l k h, printT_snoc]

/-- May a field be? -/
def fldB (x : PF) : Bool := if x.1 = 0 then decide (x.2.2.size ≠ 0 ∧ x.2.1 = 0 ∧ brk x.2.2 0 < 0) else decide (x.2.2.size = 0 ∧ rankB x.1 ≠ 0 ∧ 1 ≤ x.2.1 ∧ x.2.1 ≤ mostN (rankB x.1))
/-- May fields be, behind one of some letter (-1: none)? -/
def mayF : Int → List PF → Bool
  | _, [] => true
  | p, x :: r => fldB x && p != x.1 && mayF x.1 r
def mayB (l : List PF) : Bool := mayF (-1) l
/-- What Print hands back. -/
def dpPrint (l : List PF) : ByteArray × Int := if mayB l = true then (if 4096 < (printT l).size then (⟨#[]⟩, 3) else (printT l, 0)) else (⟨#[]⟩, 2)

/-- The letter that stands for its like. -/
def plainB (b : Int) : Int := if b = 76 then 77 else if b = 99 then 69 else if b = 75 then 104 else if b = 107 then 72 else if b = 120 then 90 else b
theorem rank_plain (b : Int) : rankB (plainB b) = rankB b := by
  unfold plainB
  repeat (split; (rename_i h; subst h; rfl))
  rfl
/-- The first field of a rank. -/
def findR (l : List PF) (r : Nat) : Option PF := l.find? fun x => rankB x.1 == r
def ofOne (l : List PF) (r : Nat) : List PF := if r = 8 then [] else match findR l r with | none => [] | some x => [(plainB x.1, x.2.1, ⟨#[]⟩)]
/-- The skeleton's fields of the ranks up to one. -/
def ofN (l : List PF) : Nat → List PF
  | 0 => []
  | r + 1 => ofN l r ++ ofOne l (r + 1)
def ofL (l : List PF) : List PF := ofN l 13

/-- Does one of two counts say numbers, the other one words? -/
def wordsB (r : Nat) (a b : Int) : Bool := decide ((r = 3 ∨ r = 5) ∧ ¬ (2 < a ↔ 2 < b))
def dR (a b : List PF) (r : Nat) : Int := match findR a r, findR b r with
  | none, none => 0
  | some x, some y => 10 * max (x.2.1 - y.2.1) (y.2.1 - x.2.1) + (if wordsB r x.2.1 y.2.1 = true then 100 else 0) + (if x.1 = y.1 then 0 else 1)
  | _, _ => 1000
def apartN (a b : List PF) : Nat → Int
  | 0 => 0
  | r + 1 => apartN a b r + dR a b (r + 1)
def apartL (a b : List PF) : Int := apartN a b 13

/-- Fields of a skeleton read from a place on, behind some rank: the fields, an error's number, a place. -/
def sF (s : ByteArray) : Nat → Nat → Nat → List PF → List PF × Int × Int
  | 0, _, _, l => (l, 0, 0)
  | f + 1, i, p, l =>
    if i < s.size then
      (if rankB (bt s i) ≤ p ∨ rankB (bt s i) = 8 ∨ mostN (rankB (bt s i)) < runTo s (bt s i) i - i then ([], 272, (i : Int)) else sF s f (runTo s (bt s i) i) (rankB (bt s i)) (l ++ [(plainB (bt s i), ((runTo s (bt s i) i - i : Nat) : Int), ⟨#[]⟩)]))
    else (l, 0, 0)
theorem sF_more (s : ByteArray) : ∀ f g i p l, s.size ≤ i + f → s.size ≤ i + g → sF s f i p l = sF s g i p l
  | 0, 0, _, _, _, _, _ => rfl
  | 0, g + 1, i, p, l, h1, _ => by
    show _ = (if _ then _ else _)
    rw [if_neg (by omega)]
    rfl
  | f + 1, 0, i, p, l, _, h2 => by
    show (if _ then _ else _) = _
    rw [if_neg (by omega)]
    rfl
  | f + 1, g + 1, i, p, l, h1, h2 => by
    show (if _ then _ else _) = (if _ then _ else _)
    by_cases hi : i < s.size
    · have hr := runTo_more hi
      rw [if_pos hi, if_pos hi, sF_more s f g (runTo s (bt s i) i) _ _ (by omega) (by omega)]
    · rw [if_neg hi, if_neg hi]
def sR (s : ByteArray) (i p : Nat) (l : List PF) : List PF × Int × Int := sF s (s.size - i) i p l
theorem sR_end {s : ByteArray} {i p : Nat} {l : List PF} (h : ¬ i < s.size) : sR s i p l = (l, 0, 0) := by
  unfold sR
  rw [show s.size - i = 0 by omega]
  rfl
theorem sR_step {s : ByteArray} {i p : Nat} {l : List PF} (h : i < s.size) : sR s i p l =
    (if rankB (bt s i) ≤ p ∨ rankB (bt s i) = 8 ∨ mostN (rankB (bt s i)) < runTo s (bt s i) i - i then ([], 272, (i : Int)) else sR s (runTo s (bt s i) i) (rankB (bt s i)) (l ++ [(plainB (bt s i), ((runTo s (bt s i) i - i : Nat) : Int), ⟨#[]⟩)])) := by
  have hr := runTo_more h
  unfold sR
  conv => lhs; rw [show s.size - i = (s.size - (i + 1)) + 1 by omega]
  show (if _ then _ else _) = _
  rw [if_pos h, sF_more s (s.size - (i + 1)) (s.size - runTo s (bt s i) i) (runTo s (bt s i) i) _ _ (by omega) (by omega)]
/-- What skeleton hands back. -/
def skel (s : ByteArray) : List PF × Int × Int := if 64 < s.size then ([], 3, 0) else sR s 0 0 []

/-- A field with the count that a skeleton has for its rank. -/
def strOne (w : List PF) (x : PF) : PF := match findR w (rankB x.1) with
  | none => x
  | some y => if x.1 ≠ 0 ∧ wordsB (rankB x.1) x.2.1 y.2.1 = false then (x.1, y.2.1, x.2.2) else x
def stretchR (l w : List PF) : List PF := l.map (strOne w)
end Go.Proofs.YtbnhfjhhbgmhfaaDoor
