/-
  A part of XML, plain: how a file falls into tokens, or what is wrong and where. No program in sight.
-/
import Derived.Test.YtnmpbphnfiiafaaGreatDoorXmUd
import Derived.Lib.RuneBytes
namespace Go.Proofs.YtnmpbphnfiiafaaGreatDoor
open Go.RowKit Go.PlainAid

/-- What reading comes to: an error and its place, or the place behind and what was read. -/
inductive Xr (α : Type) where
  | bad (e : Int) (at_ : Nat)
  | ok (p : Nat) (a : α)

abbrev At2 := ByteArray × ByteArray
/-- A token: its kind, name, attributes, text, place. -/
structure Tk where
  kind : Int
  name : ByteArray
  attrs : List At2
  text : ByteArray
  at_ : Nat

/-- Do these bytes stand there? -/
def wdAt (s : ByteArray) : Nat → List Int → Bool
  | _, [] => true
  | p, b :: l => (bt s p == b) && wdAt s (p + 1) l
/-- Behind the blanks. -/
def blkF (s : ByteArray) : Nat → Nat → Nat
  | 0, p => p
  | f + 1, p => if bBlank (bt s p) = true then blkF s f (p + 1) else p
def blk (s : ByteArray) (p : Nat) : Nat := blkF s (s.size - p) p
/-- Behind the bytes of a name. -/
def nmF (s : ByteArray) : Nat → Nat → Nat
  | 0, p => p
  | f + 1, p => if bByte (bt s p) = true then nmF s f (p + 1) else p
def nmE (s : ByteArray) (p : Nat) : Nat := nmF s (s.size - p) p
def nameX (s : ByteArray) (p : Nat) : Xr ByteArray :=
  if bStart (bt s p) = true then (if 64 < nmE s p - p then .bad 3 p else .ok (nmE s p) (s.extract p (nmE s p))) else .bad 140 p
/-- The first semicolon from a place on. -/
def smF (s : ByteArray) : Nat → Nat → Option Nat
  | 0, _ => none
  | f + 1, p => if bt s p = 59 then some p else smF s f (p + 1)
def semi (s : ByteArray) (p : Nat) : Option Nat := smF s (s.size - p) p
/-- A digit's number. -/
def digV (c : Int) : Int := if 48 ≤ c ∧ c ≤ 57 then c - 48 else if 97 ≤ c ∧ c ≤ 102 then c - 87 else if 65 ≤ c ∧ c ≤ 70 then c - 55 else 99
def numF (s : ByteArray) (base : Int) : Nat → Nat → Int → Option Int
  | 0, _, x => some x
  | f + 1, p, x => if digV (bt s p) < base then numF s base f (p + 1) (x * base + digV (bt s p)) else none
def numB (d : ByteArray) (base : Int) (most : Nat) : Option Int :=
  if d.size = 0 ∨ most < d.size then none else
    match numF d base d.size 0 0 with
    | none => none
    | some x => if rChar x = true then some x else none
/-- The number of a reference. -/
def numX (d : ByteArray) : Option Int := if bt d 0 = 120 then numB (d.extract 1 d.size) 16 6 else numB d 10 7
/-- One of the five. -/
def fiveX (b : ByteArray) : Option Int :=
  if b = ⟨#[108, 116]⟩ then some 60 else if b = ⟨#[103, 116]⟩ then some 62 else if b = ⟨#[97, 109, 112]⟩ then some 38 else if b = ⟨#[113, 117, 111, 116]⟩ then some 34 else if b = ⟨#[97, 112, 111, 115]⟩ then some 39 else none
/-- A reference's rune and its bytes' number, at the beginning of a text. -/
def refT (t : ByteArray) : Option (Int × Nat) :=
  match semi t 1 with
  | none => none
  | some e => match fiveX (t.extract 1 e) with
    | some r => some (r, e + 1)
    | none => if bt t 1 = 35 then (match numX (t.extract 2 e) with
        | none => none
        | some r => some (r, e + 1)) else none
/-- .. at a place. -/
def refX (s : ByteArray) (p : Nat) : Option (Int × Nat) := refT (s.extract p s.size)
/-- A rune as bytes. -/
def encB (r : Int) : ByteArray := ⟨(Lib.encodeRune r).toArray⟩
/-- A rune of a text, or a reference. -/
def pieceX (s : ByteArray) (p : Nat) : Xr ByteArray :=
  if bt s p = 38 then (match refX s p with
    | none => .bad 141 p
    | some (r, n) => .ok (p + n) (encB r))
  else if rChar (rn s p) = true then .ok (p + wd s p) (s.extract p (p + wd s p)) else .bad 140 p
def cmtF (s : ByteArray) : Nat → Nat → Xr Unit
  | 0, p => .bad 140 p
  | f + 1, p => if wdAt s p [45, 45] = true then (if bt s (p + 2) = 62 then .ok (p + 3) () else .bad 140 p) else
    if rChar (rn s p) = true then cmtF s f (p + wd s p) else .bad 140 p
/-- A comment, which begins there. -/
def cmtX (s : ByteArray) (p : Nat) : Xr Unit := cmtF s (s.size + 1 - p) (p + 4)
def isCmt (s : ByteArray) (p : Nat) : Bool := wdAt s p [60, 33, 45, 45]
def miscF (s : ByteArray) : Nat → Nat → Xr Unit
  | 0, p => .ok p ()
  | f + 1, p => if p < blk s p then miscF s f (blk s p) else if isCmt s p = true then (match cmtX s p with
      | .bad e a => .bad e a
      | .ok q _ => miscF s f q) else .ok p ()
/-- What may stand around the element. -/
def miscX (s : ByteArray) (p : Nat) : Xr Unit := miscF s (s.size + 1 - p) p
def valF (s : ByteArray) (q : Int) : Nat → Nat → ByteArray → Xr ByteArray
  | 0, p, _ => .bad 140 p
  | f + 1, p, acc => if bt s p = q then .ok (p + 1) acc else if s.size ≤ p ∨ bt s p = 60 then .bad 140 p else
    match pieceX s p with
    | .bad e a => .bad e a
    | .ok p' b => valF s q f p' (acc ++ b)
/-- A quoted value. -/
def valX (s : ByteArray) (p : Nat) : Xr ByteArray :=
  if bt s p = 34 ∨ bt s p = 39 then (match valF s (bt s p) (s.size + 1 - p) (p + 1) ⟨#[]⟩ with
    | .bad e a => .bad e a
    | .ok p' v => if 4096 < v.size then .bad 3 p else .ok p' v) else .bad 140 p
/-- An attribute behind others. -/
def attrX (s : ByteArray) (p : Nat) (l : List At2) : Xr At2 :=
  match nameX s p with
  | .bad e a => .bad e a
  | .ok q nm => if l.length = 16 then .bad 3 p else if (l.any fun a => decide (a.1 = nm)) = true then .bad 142 p else if bt s q = 61 then (match valX s (q + 1) with
      | .bad e a => .bad e a
      | .ok q' v => .ok q' (nm, v)) else .bad 140 q
def begF (s : ByteArray) : Nat → Nat → List At2 → Xr (Bool × List At2)
  | 0, p, _ => .bad 140 p
  | f + 1, p, l => if bt s (blk s p) = 62 then .ok (blk s p + 1) (false, l) else if bt s (blk s p) = 47 then (if bt s (blk s p + 1) = 62 then .ok (blk s p + 2) (true, l) else .bad 140 (blk s p + 1)) else
    if blk s p = p then .bad 140 (blk s p) else match attrX s (blk s p) l with
    | .bad e a => .bad e a
    | .ok q a => begF s f q (l ++ [a])
/-- The begin of an element, n others open: its name, whether it is a short one, its attributes. -/
def begX (s : ByteArray) (p n : Nat) : Xr (ByteArray × Bool × List At2) :=
  match nameX s (p + 1) with
  | .bad e a => .bad e a
  | .ok q nm => if n = 64 then .bad 3 p else match begF s (s.size + 1 - q) q [] with
    | .bad e a => .bad e a
    | .ok q' (sh, l) => .ok q' (nm, sh, l)
/-- The end of an element. -/
def endX (s : ByteArray) (p : Nat) (top : ByteArray) : Xr ByteArray :=
  match nameX s (p + 2) with
  | .bad e a => .bad e a
  | .ok q nm => if nm = top then (if bt s (blk s q) = 62 then .ok (blk s q + 1) nm else .bad 140 (blk s q)) else .bad 143 p
/-- The text ahead of a tag is told. -/
def tellX (out : List Tk) (text : ByteArray) (from_ : Option Nat) : Xr (List Tk) :=
  match from_ with
  | none => .ok 0 out
  | some a => if 4096 < text.size then .bad 3 a else .ok 0 (out ++ [⟨3, ⟨#[]⟩, [], text, a⟩])
def holdF (s : ByteArray) : Nat → Nat → List Tk → List ByteArray → ByteArray → Option Nat → Xr (List Tk)
  | 0, p, _, _, _, _ => .bad 140 p
  | f + 1, p, out, pile, text, from_ => if pile = [] then .ok p out else
    if isCmt s p = true then (match cmtX s p with
      | .bad e a => .bad e a
      | .ok q _ => holdF s f q out pile text from_)
    else if wdAt s p [60, 47] = true then (match tellX out text from_ with
      | .bad e a => .bad e a
      | .ok _ out' => match endX s p (pile.getLastD ⟨#[]⟩) with
        | .bad e a => .bad e a
        | .ok q nm => holdF s f q (out' ++ [⟨2, nm, [], ⟨#[]⟩, p⟩]) pile.dropLast ⟨#[]⟩ none)
    else if bt s p = 60 then (match tellX out text from_ with
      | .bad e a => .bad e a
      | .ok _ out' => match begX s p pile.length with
        | .bad e a => .bad e a
        | .ok q (nm, sh, l) => if sh = true then holdF s f q (out' ++ [⟨1, nm, l, ⟨#[]⟩, p⟩, ⟨2, nm, [], ⟨#[]⟩, p⟩]) pile ⟨#[]⟩ none
          else holdF s f q (out' ++ [⟨1, nm, l, ⟨#[]⟩, p⟩]) (pile ++ [nm]) ⟨#[]⟩ none)
    else if s.size ≤ p ∨ wdAt s p [93, 93, 62] = true then .bad 140 p else
      match pieceX s p with
      | .bad e a => .bad e a
      | .ok q b => holdF s f q out pile (text ++ b) (some (from_.getD p))
def declB : List Int := [60, 63, 120, 109, 108, 32, 118, 101, 114, 115, 105, 111, 110, 61, 34, 49, 46, 48, 34, 63, 62]
def declN : List Int := [60, 63, 120, 109, 108, 32, 118, 101, 114, 115, 105, 111, 110, 61, 34, 49, 46, 48, 34, 32, 101, 110, 99, 111, 100, 105, 110, 103, 61, 34, 85, 84, 70, 45, 56, 34, 63, 62]
/-- Behind the declaration. -/
def declX (s : ByteArray) : Xr Unit := if wdAt s 0 declB = true then .ok 21 () else if wdAt s 0 declN = true then .ok 38 () else if wdAt s 0 [60, 63] = true then .bad 140 0 else .ok 0 ()
/-- A file behind its declaration. -/
def bodyX (s : ByteArray) (p0 : Nat) : Xr (List Tk) :=
  match miscX s p0 with
  | .bad e a => .bad e a
  | .ok p _ => if bt s p = 60 then (match begX s p 0 with
      | .bad e a => .bad e a
      | .ok q (nm, sh, l) => match (if sh = true then holdF s (s.size + 1 - q) q [⟨1, nm, l, ⟨#[]⟩, p⟩, ⟨2, nm, [], ⟨#[]⟩, p⟩] [] ⟨#[]⟩ none else holdF s (s.size + 1 - q) q [⟨1, nm, l, ⟨#[]⟩, p⟩] [nm] ⟨#[]⟩ none) with
        | .bad e a => .bad e a
        | .ok r out => match miscX s r with
          | .bad e a => .bad e a
          | .ok z _ => if z = s.size then .ok z out else .bad 140 z) else .bad 140 p
def tokensX (s : ByteArray) : Xr (List Tk) :=
  if 262144 < s.size then .bad 3 262144 else if 0 ≤ brk s 0 then .bad 6 (brk s 0).toNat else
    match declX s with
    | .bad e a => .bad e a
    | .ok p _ => bodyX s p
def unF (s : ByteArray) : Nat → Nat → ByteArray → Xr ByteArray
  | 0, p, acc => .ok p acc
  | f + 1, p, acc => if s.size ≤ p then .ok p acc else if bt s p = 60 then .bad 140 p else match pieceX s p with
    | .bad e a => .bad e a
    | .ok q b => unF s f q (acc ++ b)
/-- What a text with references says. -/
def unescX (s : ByteArray) : Xr ByteArray := if 0 ≤ brk s 0 then .bad 6 (brk s 0).toNat else unF s (s.size + 1) 0 ⟨#[]⟩
/-- Does XML take all of a text? -/
def takenF (s : ByteArray) : Nat → Nat → Bool
  | 0, _ => true
  | f + 1, p => if s.size ≤ p then true else if rChar (rn s p) = true then takenF s f (p + wd s p) else false
def takenX (s : ByteArray) : Bool := takenF s (s.size + 1) 0
/-- A text with references for the four. -/
def escC (c : UInt8) : List UInt8 := if c = 38 then [38, 97, 109, 112, 59] else if c = 60 then [38, 108, 116, 59] else if c = 62 then [38, 103, 116, 59] else if c = 34 then [38, 113, 117, 111, 116, 59] else [c]
def escB (s : ByteArray) : ByteArray := ⟨(s.data.toList.flatMap escC).toArray⟩
end Go.Proofs.YtnmpbphnfiiafaaGreatDoor
