/-
  Laws and contracts taken over from earlier texts (cut out by a program of this seat's own, slice.py), as far as this seat needs them.
-/
import Derived.WalkKit
import Derived.PlainAid
import Derived.Lib.Strings
import Derived.WalkSpells
import Derived.WalkLawsBesides
import Derived.Lib.Hide
import Derived.Handy
import Derived.Lib.SlBytesRow
import Derived.Deep.OwnRows
import Derived.Lib.BufferRead
import Derived.WalkSmall
import Derived.Below
import Derived.Lib.SmallJoins
import Derived.Lib.RepeatB
import Derived.Deep.QuietTactic
import Derived.BigQuiet
import Derived.Outline
import Derived.IntWalk
import Derived.Deep.Cut
import Derived.Deep.DeepCutAuto
import Derived.ScopeJumps
import Derived.Deep.RegionHeld3
import Derived.Lib.ConvBytes
import Derived.Lib.OthersKept
import Derived.Deep.LoopGhost
import Derived.StillTailTactics
import Derived.Lib.AppendIntMem
import Derived.Lib.ItoaMem
import Derived.BigCall
import Derived.BigGuard
import Derived.Test.YtgbemhehbhlgpaaGreatDoorRows
import Derived.Test.YtgbemhehbhlgpaaGreatDoorShelf
namespace Go.Proofs.YtgbemhehbhlgpaaGreatDoor
section
open Go.RowKit
theorem bdN0 {B : Nat} {a w : World} (h : Below B a w) (n : Nat) : Below B a (w.drewN n) := ⟨h.os, h.tape, h.output, h.size, h.block⟩
end
section
open Go.RowKit Go.PlainAid
theorem ret_bool {a b : Bool} (h : a = b) : Ending.returned (.bool a) = .returned (.bool b) := by rw [h]

theorem ret_int {k : IntKind} {a b : Int} (h : a = b) : Ending.returned (.int k a) = .returned (.int k b) := by rw [h]

theorem ret_val {a b : Value} (h : b = a) : Ending.returned a = .returned b := by rw [h]

/-- The value of a row of digits, the lowest first. -/
def rowval : List Nat → Nat
  | [] => 0
  | d :: l => d + 10 * rowval l

theorem rowval_append (l m : List Nat) : rowval (l ++ m) = rowval l + 10 ^ l.length * rowval m := by
  induction l with
  | nil => simp [rowval]
  | cons d l ih =>
    simp only [List.cons_append, rowval, ih, List.length_cons, Nat.pow_succ]
    rw [Nat.mul_add, Nat.mul_comm (10 ^ l.length) 10, Nat.mul_assoc, Nat.add_assoc]

theorem rowval_zeros (k : Nat) : rowval (List.replicate k 0) = 0 := by
  induction k with
  | zero => rfl
  | succ k ih => simp [List.replicate_succ, rowval, ih]

theorem rowval_lt {l : List Nat} (h : ∀ d ∈ l, d < 10) : rowval l < 10 ^ l.length := by
  induction l with
  | nil => simp [rowval]
  | cons d l ih =>
    have h1 := h d (by simp)
    have h2 := ih (fun x hx => h x (by simp [hx]))
    simp only [rowval, List.length_cons, Nat.pow_succ]
    omega

/-- The digits of a number, the lowest first, no noughts behind; nought has one. -/
def lowF : Nat → Nat → List Nat
  | 0, _ => []
  | f + 1, n => if n < 10 then [n] else n % 10 :: lowF f (n / 10)

def lowD (n : Nat) : List Nat := lowF (n + 1) n

theorem lowF_more : ∀ f g n, n < f → n < g → lowF f n = lowF g n
  | 0, _, _, h, _ => absurd h (by omega)
  | _ + 1, 0, _, _, h => absurd h (by omega)
  | f + 1, g + 1, n, h, h' => by
    simp only [lowF]
    split
    · rfl
    · rw [lowF_more f g (n / 10) (by omega) (by omega)]

theorem lowD_small (n : Nat) (h : n < 10) : lowD n = [n] := by unfold lowD; simp only [lowF]; rw [if_pos h]

theorem lowD_step (n : Nat) (h : 10 ≤ n) : lowD n = n % 10 :: lowD (n / 10) := by
  unfold lowD
  rw [lowF, if_neg (by omega), lowF_more n (n / 10 + 1) (n / 10) (by omega) (by omega)]

/-- A row with no nought at its end, or of one digit. -/
def Canon (l : List Nat) : Prop := l ≠ [] ∧ (∀ d ∈ l, d < 10) ∧ (1 < l.length → l.getLast? ≠ some 0)

theorem canon_low {l : List Nat} (h : Canon l) : l = lowD (rowval l) := by
  induction l with
  | nil => exact absurd rfl h.1
  | cons d l ih =>
    have hd : d < 10 := h.2.1 d (by simp)
    cases l with
    | nil => rw [show rowval [d] = d by simp [rowval], lowD_small d hd]
    | cons e m =>
      have hc : Canon (e :: m) := ⟨by simp, fun x hx => h.2.1 x (by simp only [List.mem_cons] at hx ⊢; exact .inr hx), fun hl => by
        have := h.2.2 (by simp)
        simpa [List.getLast?_cons_cons] using this⟩
      have hp : 0 < rowval (e :: m) := by
        apply Nat.pos_of_ne_zero
        intro h0
        have e1 := ih hc
        rw [h0, lowD_small 0 (by omega)] at e1
        have := h.2.2 (by simp)
        rw [e1] at this
        simp at this
      have e1 : rowval (d :: e :: m) = d + 10 * rowval (e :: m) := rfl
      rw [e1, lowD_step _ (by omega)]
      have e2 : (d + 10 * rowval (e :: m)) % 10 = d := by omega
      have e3 : (d + 10 * rowval (e :: m)) / 10 = rowval (e :: m) := by omega
      rw [e2, e3, ← ih hc]

theorem lowF_canon : ∀ f n, n < f → Canon (lowF f n) ∧ rowval (lowF f n) = n
  | 0, _, h => absurd h (by omega)
  | f + 1, n, h => by
    simp only [lowF]
    split
    · rename_i hn
      exact ⟨⟨by simp, by simp; omega, by simp⟩, by simp [rowval]⟩
    · rename_i hn
      obtain ⟨⟨h1, h2, h3⟩, h4⟩ := lowF_canon f (n / 10) (by omega)
      refine ⟨⟨by simp, ?_, ?_⟩, by simp only [rowval, h4]; omega⟩
      · intro x hx
        simp only [List.mem_cons] at hx
        rcases hx with rfl | hx
        · omega
        · exact h2 x hx
      · intro _
        cases hl : lowF f (n / 10) with
        | nil => exact absurd hl h1
        | cons e m =>
          rw [List.getLast?_cons_cons, ← hl]
          by_cases h10 : 1 < (lowF f (n / 10)).length
          · exact h3 h10
          · rw [hl] at h10 h4 ⊢
            have : m = [] := by cases m with
              | nil => rfl
              | cons _ _ => simp at h10
            subst this
            have : e = n / 10 := by simpa [rowval] using h4
            simp
            omega

theorem lowD_canon (n : Nat) : Canon (lowD n) := (lowF_canon (n + 1) n (by omega)).1

theorem rowval_lowD (n : Nat) : rowval (lowD n) = n := (lowF_canon (n + 1) n (by omega)).2

/-- The digits of a text, the highest first. -/
def dl (s : ByteArray) : List Nat := s.data.toList.map fun b => b.toNat - 48

/-- The number that a text of digits is. -/
def dval (s : ByteArray) : Nat := rowval (dl s).reverse

def AllDig (s : ByteArray) : Prop := ∀ k, k < s.size → 48 ≤ bt s k ∧ bt s k ≤ 57

/-- The text of a number's digits. -/
def textL (l : List Nat) : ByteArray := ⟨(l.map fun d => UInt8.ofNat (48 + d)).toArray⟩

def digs (n : Nat) : ByteArray := textL (lowD n).reverse

theorem dl_length (s : ByteArray) : (dl s).length = s.size := by unfold dl; rw [List.length_map]; exact (Lib.size_eq s).symm

theorem dl_get (s : ByteArray) (k : Nat) (h : k < s.size) : ((dl s)[k]'(by rw [dl_length]; exact h) : Int) = ((bt s k).toNat - 48 : Nat) := by
  rw [← get_bt s k h]
  simp [dl]
  rfl

theorem dl_lt {s : ByteArray} (h : AllDig s) : ∀ d ∈ dl s, d < 10 := fun d hd => by
  obtain ⟨k, hk, e⟩ := List.getElem_of_mem hd
  rw [dl_length] at hk
  have h1 := dl_get s k hk
  have h2 := h k hk
  omega

theorem textL_size (l : List Nat) : (textL l).size = l.length := by simp [textL, ByteArray.size]

theorem u8_eq {x y : UInt8} (h : (x.toNat : Int) = y.toNat) : x = y := UInt8.toNat_inj.1 (by omega)

theorem bt_textL (l : List Nat) (h : ∀ d ∈ l, d < 10) (k : Nat) (hk : k < l.length) : bt (textL l) k = 48 + (l[k] : Int) := by
  have hk' : k < (textL l).size := by rw [textL_size]; exact hk
  rw [← get_bt _ k hk']
  have e : (textL l)[k]'hk' = UInt8.ofNat (48 + l[k]) := by
    show (l.map fun d => UInt8.ofNat (48 + d)).toArray[k]'_ = _
    simp
  rw [e]
  have := h l[k] (List.getElem_mem _)
  simp
  omega

theorem textL_dig {l : List Nat} (h : ∀ d ∈ l, d < 10) : AllDig (textL l) := fun k hk => by
  rw [textL_size] at hk
  have h1 := bt_textL l h k hk
  have h2 := h l[k] (List.getElem_mem _)
  omega

/-- A text is its bytes. -/
theorem bytes_eq {s t : ByteArray} (hz : s.size = t.size) (h : ∀ k, k < s.size → bt s k = bt t k) : s = t := by
  apply ByteArray.ext
  apply Array.ext
  · exact hz
  · intro k h1 h2
    have h1' : k < s.size := h1
    have h2' : k < t.size := h2
    have e := h k h1'
    rw [← get_bt s k h1', ← get_bt t k h2'] at e
    exact u8_eq e

theorem textL_dl {s : ByteArray} (h : AllDig s) : textL (dl s) = s := by
  refine bytes_eq (by rw [textL_size, dl_length]) fun k hk => ?_
  rw [textL_size] at hk
  rw [bt_textL _ (dl_lt h) k hk]
  rw [dl_length] at hk
  have h1 := dl_get s k hk
  have h2 := h k hk
  omega

theorem dl_textL (l : List Nat) (h : ∀ d ∈ l, d < 10) : dl (textL l) = l := by
  apply List.ext_getElem
  · rw [dl_length, textL_size]
  · intro k h1 h2
    have hk : k < (textL l).size := by rw [dl_length] at h1; exact h1
    have e := dl_get (textL l) k hk
    rw [bt_textL l h k h2] at e
    omega

theorem dval_textL (l : List Nat) (h : ∀ d ∈ l, d < 10) : dval (textL l) = rowval l.reverse := by unfold dval; rw [dl_textL l h]

theorem dval_digs (n : Nat) : dval (digs n) = n := by
  unfold digs
  rw [dval_textL _ (fun d hd => (lowD_canon n).2.1 d (by simpa using hd)), List.reverse_reverse, rowval_lowD]

theorem digs_dig (n : Nat) : AllDig (digs n) := textL_dig (fun d hd => (lowD_canon n).2.1 d (by simpa using hd))

theorem digs_pos (n : Nat) : 0 < (digs n).size := by
  unfold digs
  rw [textL_size, List.length_reverse]
  exact List.length_pos_iff.2 (lowD_canon n).1

/-- A text of digits with no nought ahead, or of one digit, is the text of its number. -/
theorem digs_of {s : ByteArray} (h : AllDig s) (h0 : 0 < s.size) (h1 : 1 < s.size → bt s 0 ≠ 48) : digs (dval s) = s := by
  have hc : Canon (dl s).reverse := by
    refine ⟨?_, fun d hd => dl_lt h d (by simpa using hd), fun hl => ?_⟩
    · intro e
      have := congrArg List.length e
      rw [List.length_reverse, dl_length, List.length_nil] at this
      omega
    · rw [List.length_reverse, dl_length] at hl
      rw [List.getLast?_reverse]
      have e : (dl s).head? = some ((dl s)[0]'(by rw [dl_length]; omega)) := by
        rw [List.head?_eq_getElem?, List.getElem?_eq_getElem (by rw [dl_length]; omega)]
      rw [e]
      intro e2
      have e3 := dl_get s 0 h0
      have a1 := h1 hl
      have a2 := h 0 h0
      rw [Option.some.inj e2] at e3
      omega
  unfold digs dval
  rw [← canon_low hc, List.reverse_reverse, textL_dl h]

/-- What 'made' makes of a number: the sign, the digits, the scale, the error. -/
def madeR (neg : Bool) (n : Nat) (scale : Int) : Bool × ByteArray × Int × Int :=
  if 400 < (digs n).size ∨ 400 < scale then (false, ⟨#[]⟩, 0, 3) else (neg && n != 0, digs n, scale, 0)

/-- The value that a decimal and an error are. -/
abbrev decE (r : Bool × ByteArray × Int × Int) : Value := .tuple #[.agg #[.bool r.1, .string r.2.1, .int .i64 r.2.2.1], .int .i64 r.2.2.2]

/-- May a decimal be? -/
def rightB (neg : Bool) (ds : ByteArray) (scale : Int) : Bool :=
  decide (1 ≤ ds.size ∧ ds.size ≤ 400 ∧ 0 ≤ scale ∧ scale ≤ 400 ∧ ¬ (bt ds 0 = 48 ∧ (1 < ds.size ∨ neg = true)) ∧ ∀ k, k < ds.size → 48 ≤ bt ds k ∧ bt ds k ≤ 57)

theorem right_yes {neg : Bool} {ds : ByteArray} {scale : Int} (h1 : 1 ≤ ds.size) (h2 : ds.size ≤ 400) (h3 : 0 ≤ scale) (h4 : scale ≤ 400) (h5 : ¬ (bt ds 0 = 48 ∧ (1 < ds.size ∨ neg = true))) (h6 : ∀ k, k < ds.size → 48 ≤ bt ds k ∧ bt ds k ≤ 57) : rightB neg ds scale = true :=
  decide_eq_true ⟨h1, h2, h3, h4, h5, h6⟩

theorem right_no {neg : Bool} {ds : ByteArray} {scale : Int} (h : ¬ (1 ≤ ds.size ∧ ds.size ≤ 400 ∧ 0 ≤ scale ∧ scale ≤ 400 ∧ ¬ (bt ds 0 = 48 ∧ (1 < ds.size ∨ neg = true)))) : rightB neg ds scale = false :=
  decide_eq_false fun g => h ⟨g.1, g.2.1, g.2.2.1, g.2.2.2.1, g.2.2.2.2.1⟩

theorem right_bad {neg : Bool} {ds : ByteArray} {scale : Int} {k : Nat} (hk : k < ds.size) (h : bt ds k < 48 ∨ 57 < bt ds k) : rightB neg ds scale = false :=
  decide_eq_false fun g => by have := g.2.2.2.2.2 k hk; omega

/-- The number that Check gives. -/
def errB (b : Bool) : Int := if b then 0 else 2

theorem right_digs {neg : Bool} {ds : ByteArray} {scale : Int} (h : rightB neg ds scale = true) : digs (dval ds) = ds := by
  obtain ⟨h1, _, _, _, h5, h6⟩ := of_decide_eq_true h
  exact digs_of h6 (by omega) (fun g e => h5 ⟨e, .inl g⟩)

end
section
open Go.RowKit Go.PlainAid
theorem infoInt : (Tryz.prog.info? 3).map (fun i => (i.zero, i.size, i.bytes)) = some (some (.int .i64 0), 1, 8) := by kernel_rfl

/-- A slice of ints that a call has made (its block lies at base or behind) and that holds a row of digits. -/
def IntRow (base : Nat) (w : World) (v : Value) (l : List Nat) : Prop := w.ownsRow base 3 1 v l.length (l.map fun d : Nat => Value.int .i64 (d : Int))

theorem IntRow.nil (base : Nat) (w : World) : IntRow base w (.slice none 0 0) [] := World.ownsRow_nil _ _ _ _

/-- What a row is to a reader: a slice of so many, each cell a digit. -/
theorem IntRow.read {base : Nat} {w : World} {v : Value} {l : List Nat} (h : IntRow base w v l) :
    (l = [] ∧ v = .slice none 0 0) ∨ ∃ g cap, v = .slice (some ⟨g, 0, none⟩) l.length cap ∧ base ≤ g ∧ g < w.heap.size ∧ l.length ≤ cap ∧ cap ≤ maxLen ∧ ∀ j (hj : j < l.length), w.cell? ⟨g, j, none⟩ = some (.int .i64 (l[j] : Int)) ∧ w.frozen? ⟨g, j, none⟩ = false := by
  obtain ⟨h1, h2⟩ := id h
  rcases h2 with ⟨hv, hn⟩ | ⟨g, cap, cur, hv, hg, hh, hc, hm, hs, ht⟩
  · exact .inl ⟨List.eq_nil_of_length_eq_zero hn, hv⟩
  · refine .inr ⟨g, cap, hv, hg, (Array.getElem?_eq_some_iff.1 hh).1, hc, hm, fun j hj => ?_⟩
    have h' : w.ownsRow base 3 1 (.slice (some ⟨g, 0, none⟩) l.length cap) l.length (l.map fun d : Nat => Value.int .i64 (d : Int)) := by rw [← hv]; exact h
    refine ⟨?_, World.ownsRow.frozenAt h' j⟩
    rw [World.ownsRow.cellAt h' j (by omega), List.getElem?_map, List.getElem?_eq_getElem hj]
    rfl

/-- A row stands in every later world. -/
theorem IntRow.later {base : Nat} {w w' : World} {v : Value} {l : List Nat} (h : IntRow base w v l) (hb : Below w.heap.size w w') : IntRow base w' v l := by
  obtain ⟨h1, h2⟩ := h
  refine ⟨h1, ?_⟩
  rcases h2 with h2 | ⟨g, cap, cur, hv, hg, hh, r⟩
  · exact .inl h2
  · exact .inr ⟨g, cap, cur, hv, hg, (hb.block g (Array.getElem?_eq_some_iff.1 hh).1).trans hh, r⟩

theorem IntRow.base {base base' : Nat} {w : World} {v : Value} {l : List Nat} (h : IntRow base w v l) (hb : base' ≤ base) : IntRow base' w v l := by
  obtain ⟨h1, h2⟩ := h
  refine ⟨h1, ?_⟩
  rcases h2 with h2 | ⟨g, cap, cur, hv, hg, r⟩
  · exact .inl h2
  · exact .inr ⟨g, cap, cur, hv, Nat.le_trans hb hg, r⟩

theorem IntRow.own {base : Nat} {w : World} {v : Value} {l : List Nat} (h : IntRow base w v l) : ∀ k, v.ownBlock = some k → base ≤ k := by
  rcases h.2 with ⟨hv, _⟩ | ⟨g, cap, cur, hv, hg, _⟩
  · intro k hk; rw [hv] at hk; cases hk
  · intro k hk
    rw [hv] at hk
    have : g = k := Option.some.inj hk
    omega

/-- What append leaves is a row of one more. -/
theorem IntRow.snoc {base : Nat} {w : World} {v : Value} {l : List Nat} {d : Nat} {x : Int} (hx : x = (d : Int)) (h : w.ownsRow base 3 1 v (l.length + 1) ((l.map fun d : Nat => Value.int .i64 (d : Int)) ++ [.int .i64 x])) : IntRow base w v (l ++ [d]) := by
  subst hx
  unfold IntRow
  simpa using h

/-- The row of a decimal's digits at a scale: noughts, then the digits, the lowest first. -/
def rowOf (ds : ByteArray) (k : Nat) : List Nat := List.replicate k 0 ++ (dl ds).reverse

theorem rowOf_length (ds : ByteArray) (k : Nat) : (rowOf ds k).length = k + ds.size := by simp [rowOf, dl_length]

theorem rowOf_lt {ds : ByteArray} (h : AllDig ds) (k : Nat) : ∀ d ∈ rowOf ds k, d < 10 := fun d hd => by
  rcases List.mem_append.1 hd with h1 | h1
  · have := (List.mem_replicate.1 h1).2; omega
  · exact dl_lt h d (by simpa using h1)

theorem rowval_rowOf (ds : ByteArray) (k : Nat) : rowval (rowOf ds k) = dval ds * 10 ^ k := by
  unfold rowOf dval
  rw [rowval_append, rowval_zeros, List.length_replicate, Nat.zero_add, Nat.mul_comm]

theorem rev_take (ds : ByteArray) (p : Nat) (h : p < ds.size) : (dl ds).reverse.take (ds.size - p) = (dl ds).reverse.take (ds.size - (p + 1)) ++ [((bt ds p).toNat - 48 : Nat)] := by
  have e : ds.size - p = (ds.size - (p + 1)) + 1 := by omega
  have hl : (dl ds).reverse.length = ds.size := by rw [List.length_reverse, dl_length]
  rw [e, List.take_succ_eq_append_getElem (by rw [hl]; omega)]
  congr 2
  rw [List.getElem_reverse]
  have e2 : (dl ds).length - 1 - (ds.size - (p + 1)) = p := by rw [dl_length]; omega
  have h1 := dl_get ds p h
  simp only [e2]
  omega

set_option maxRecDepth 100000 in
set_option maxHeartbeats 2000000 in
theorem rRow_any (neg : Bool) (ds : ByteArray) (sc scale : Int) (w : World) (hd : AllDig ds) (h1 : ds.size ≤ 100000) (h2 : 0 ≤ sc) (h3 : scale ≤ 100000) :
    Calls Tryz.prog 74 #[.agg #[.bool neg, .string ds, .int .i64 sc], .int .i64 scale] w fun e w' => ∃ v, e = .returned v ∧ IntRow w.heap.size w' v (rowOf ds (scale - sc).toNat) ∧ Below w.heap.size w w' := by
  have hb := get_bt ds
  obtain ⟨i0, hi, hz0, hz1, hz2⟩ := info_parts infoInt
  go_enter Tryz.func74, Tryz.ntmps74
  go_wp2
  have hz : (w.alloc (.cells #[.bool neg, .string ds, .int .i64 sc] 23)).heap.size = w.heap.size + 1 := World.size_alloc _ _
  have hq : (w.alloc (.cells #[.bool neg, .string ds, .int .i64 sc] 23)).cell? ⟨w.heap.size, 1, none⟩ = some (.string ds) := by go_simp
  have hB0 := (Below.refl w.heap.size w).alloc (Nat.le_refl _) (.cells #[.bool neg, .string ds, .int .i64 sc] 23)
  generalize w.alloc (.cells #[.bool neg, .string ds, .int .i64 sc] 23) = W0 at *
  have HZ := Lib.hid hz; clear hz
  obtain ⟨N, hN⟩ : ∃ N, (scale - sc).toNat = N := ⟨_, rfl⟩
  have HN := Lib.hid hN; clear hN
  have hNb : N ≤ 100000 := by have := HN.out; omega
  go_loopw [5, 6] (fun v i wr => ∃ k : Nat, k ≤ N ∧ i = .int .i64 (sc + k) ∧ IntRow (w.heap.size + 1) wr v (List.replicate k 0) ∧ Below (w.heap.size + 1) W0 wr) (fun _ i _ => (scale - intOf i).toNat)
  case atStart => exact ⟨0, Nat.zero_le _, by simp, IntRow.nil _ _, Below.refl _ _⟩
  case round =>
    obtain ⟨k, hk, rfl, hrow, hB⟩ := hrel
    have hsz := hB.size
    have hsz2 : w.heap.size + 1 ≤ wr.heap.size := by have := HZ.out; omega
    by_cases hlt : sc + (k : Int) < scale
    · have hkN : k + 1 ≤ N := by have := HN.out; omega
      have hown := hrow
      unfold IntRow at hown
      rw [List.length_replicate] at hown
      go_wp2_with (at_builtin; refine wpList_append_own _ rfl _ _ 138 rfl (w.heap.size + 1) 3 i0 (.int .i64 0) 1 8 Tryz.underlying138 hi hz0 hz1 hz2 rfl (by decide) _ _ _ rfl (hown.alloc _) ⟨wr.heap.size, 0, none⟩ 1 1 [.int .i64 0] rfl rfl ?c1 ?c2 ?c3 ?c4 ?c5 ?_)
      case c1 => exact cell_one_new _ _ _
      case c2 => simp [Value.oneCell']
      case c3 => unfold maxLen; omega
      case c4 => omega
      case c5 => simp; omega
      intro v' w1 hown' hgrow hne
      have hB' := (hB.alloc hsz2 (.cells #[.int .i64 0] 3)).grown hgrow (by simp; omega) hrow.own
      have hrow' : IntRow (w.heap.size + 1) w1 v' (List.replicate (k + 1) 0) := by
        rw [List.replicate_succ']
        exact IntRow.snoc (l := List.replicate k 0) (d := 0) rfl (by simpa using hown')
      clear hne hown' hgrow hown
      go_wp2
      go_roundw
      case rel => exact ⟨k + 1, hkN, by go_num, hrow', hB'⟩
      case measure => simp [intOf]; omega
    · have hkN : k = N := by have := HN.out; omega
      subst hkN
      have hq1 : wr.cell? ⟨w.heap.size, 1, none⟩ = some (.string ds) := (hB.cell (p := ⟨w.heap.size, 1, none⟩) (by simp)).trans hq
      go_wp2
      have hdl : ∀ p, p < ds.size → 48 ≤ bt ds p ∧ bt ds p ≤ 57 := hd
      have HD := Lib.hid hdl; clear hdl hd
      have HQ := Lib.hid hq1
      have hrow0 : IntRow (w.heap.size + 1) wr u5 (List.replicate k 0 ++ (dl ds).reverse.take (ds.size - ds.size)) := by simpa using hrow
      clear hrow
      go_loopw [5, 7] (fun v j w2 => ∃ m : Nat, m ≤ ds.size ∧ j = .int .i64 ((m : Int) - 1) ∧ IntRow (w.heap.size + 1) w2 v (List.replicate k 0 ++ (dl ds).reverse.take (ds.size - m)) ∧ Below (w.heap.size + 1) W0 w2) (fun _ j _ => (intOf j + 1).toNat)
      case atStart => exact ⟨ds.size, Nat.le_refl _, rfl, hrow0, hB⟩
      case round =>
        obtain ⟨m, hm, rfl, hrow, hB⟩ := hrel
        have hsz3 := hB.size
        have hsz4 : w.heap.size + 1 ≤ wr.heap.size := by have := HZ.out; omega
        cases m with
        | zero =>
          go_wp2
          go_ret
          refine ⟨_, rfl, ?_, hB0.trans (hB.mono (by simp))⟩
          rw [HN.out]
          have h := hrow
          rw [Nat.sub_zero, List.take_of_length_le (by rw [List.length_reverse, dl_length]; omega)] at h
          exact h.base (by simp)
        | succ p =>
          have e1 : ((p + 1 : Nat) : Int) - 1 = (p : Int) := by omega
          rw [e1]
          have hp : p < ds.size := by omega
          obtain ⟨hd1, hd2⟩ := HD.out p hp
          have hq2 : wr.cell? ⟨w.heap.size, 1, none⟩ = some (.string ds) := (hB.cell (p := ⟨w.heap.size, 1, none⟩) (by simp)).trans hq
          have hown := hrow
          have hlen : (List.replicate k 0 ++ (dl ds).reverse.take (ds.size - (p + 1))).length ≤ 200000 := by simp [dl_length]; omega
          unfold IntRow at hown
          generalize hL : List.replicate k 0 ++ (dl ds).reverse.take (ds.size - (p + 1)) = L at *
          have HL := Lib.hid hL; clear hL
          go_wp2_with (at_builtin; refine wpList_append_own _ rfl _ _ 138 rfl (w.heap.size + 1) 3 i0 (.int .i64 0) 1 8 Tryz.underlying138 hi hz0 hz1 hz2 rfl (by decide) _ _ _ rfl (hown.alloc _) ⟨wr.heap.size, 0, none⟩ 1 1 [.int .i64 (bt ds p - 48)] rfl rfl ?c1 ?c2 ?c3 ?c4 ?c5 ?_)
          case c1 => exact cell_one_new _ _ _
          case c2 => simp [Value.oneCell']
          case c3 => unfold maxLen; omega
          case c4 => omega
          case c5 => simp; omega
          intro v' w1 hown' hgrow hne
          have hB' := (hB.alloc hsz4 (.cells #[.int .i64 (bt ds p - 48)] 3)).grown hgrow (by simp; omega) hrow.own
          have hrow' : IntRow (w.heap.size + 1) w1 v' (List.replicate k 0 ++ (dl ds).reverse.take (ds.size - p)) := by
            rw [rev_take ds p hp, ← List.append_assoc, HL.out]
            exact IntRow.snoc (by omega) hown'
          clear hne hown' hgrow hown
          go_wp2
          go_roundw
          case rel => exact ⟨p, by omega, by go_num, hrow', hB'⟩
          case measure => first | (simp [intOf]; done) | (simp [intOf]; omega)

end
end Go.Proofs.YtgbemhehbhlgpaaGreatDoor
