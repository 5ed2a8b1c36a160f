/-
  Plain words for the layer dec: rows of digits and their value, the one row of digits of a number, the decimal that is made of a number. No program in sight.
-/
import Derived.WalkKit
import Derived.PlainAid
import Derived.Lib.Strings
namespace Go.Proofs.YtgccppilhbannaaDoor
open Go.RowKit Go.PlainAid

theorem ret_bool {a b : Bool} (h : a = b) : Ending.returned (.bool a) = .returned (.bool b) := by rw [h]
theorem ret_int {k : IntKind} {a b : Int} (h : a = b) : Ending.returned (.int k a) = .returned (.int k b) := by rw [h]
theorem ret_val {a b : Value} (h : b = a) : Ending.returned a = .returned b := by rw [h]

/-- The value of a row of digits, the lowest first. -/
def rowval : List Nat → Nat
  | [] => 0
  | d :: l => d + 10 * rowval l
theorem rowval_append (l m : List Nat) : rowval (l ++ m) = rowval l + 10 ^ l.length * rowval m := by
  induction l with
  | nil => simp [rowval]
  | cons d l ih =>
    simp only [List.cons_append, rowval, ih, List.length_cons, Nat.pow_succ]
    rw [Nat.mul_add, Nat.mul_comm (10 ^ l.length) 10, Nat.mul_assoc, Nat.add_assoc]
theorem rowval_zeros (k : Nat) : rowval (List.replicate k 0) = 0 := by
  induction k with
  | zero => rfl
  | succ k ih => simp [List.replicate_succ, rowval, ih]
theorem rowval_lt {l : List Nat} (h : ∀ d ∈ l, d < 10) : rowval l < 10 ^ l.length := by
  induction l with
  | nil => simp [rowval]
  | cons d l ih =>
    have h1 := h d (by simp)
    have h2 := ih (fun x hx => h x (by simp [hx]))
    simp only [rowval, List.length_cons, Nat.pow_succ]
    omega

/-- The digits of a number, the lowest first, no noughts behind; nought has one. -/
def lowF : Nat → Nat → List Nat
  | 0, _ => []
  | f + 1, n => if n < 10 then [n] else n % 10 :: lowF f (n / 10)
def lowD (n : Nat) : List Nat := lowF (n + 1) n
theorem lowF_more : ∀ f g n, n < f → n < g → lowF f n = lowF g n
  | 0, _, _, h, _ => absurd h (by omega)
  | _ + 1, 0, _, _, h => absurd h (by omega)
  | f + 1, g + 1, n, h, h' => by
    simp only [lowF]
    split
    · rfl
    · rw [lowF_more f g (n / 10) (by omega) (by omega)]
theorem lowD_small (n : Nat) (h : n < 10) : lowD n = [n] := by unfold lowD; simp only [lowF]; rw [if_pos h]
theorem lowD_step (n : Nat) (h : 10 ≤ n) : lowD n = n % 10 :: lowD (n / 10) := by
  unfold lowD
  rw [lowF, if_neg (by omega), lowF_more n (n / 10 + 1) (n / 10) (by omega) (by omega)]
/-- A row with no nought at its end, or of one digit. -/
def Canon (l : List Nat) : Prop := l ≠ [] ∧ (∀ d ∈ l, d < 10) ∧ (1 < l.length → l.getLast? ≠ some 0)
theorem canon_low {l : List Nat} (h : Canon l) : l = lowD (rowval l) := by
  induction l with
  | nil => exact absurd rfl h.1
  | cons d l ih =>
    have hd : d < 10 := h.2.1 d (by simp)
    cases l with
    | nil => rw [show rowval [d] = d by simp [rowval], lowD_small d hd]
    | cons e m =>
      have hc : Canon (e :: m) := ⟨by simp, fun x hx => h.2.1 x (by simp only [List.mem_cons] at hx ⊢; exact .inr hx), fun hl => by
        have := h.2.2 (by simp)
        simpa [List.getLast?_cons_cons] using this⟩
      have hp : 0 < rowval (e :: m) := by
        apply Nat.pos_of_ne_zero
        intro h0
        have e1 := ih hc
        rw [h0, lowD_small 0 (by omega)] at e1
        have := h.2.2 (by simp)
        rw [e1] at this
        simp at this
      have e1 : rowval (d :: e :: m) = d + 10 * rowval (e :: m) := rfl
      rw [e1, lowD_step _ (by omega)]
      have e2 : (d + 10 * rowval (e :: m)) % 10 = d := by omega
      have e3 : (d + 10 * rowval (e :: m)) / 10 = rowval (e :: m) := by omega
      rw [e2, e3, ← ih hc]
theorem lowF_canon : ∀ f n, n < f → Canon (lowF f n) ∧ rowval (lowF f n) = n
  | 0, _, h => absurd h (by omega)
  | f + 1, n, h => by
    simp only [lowF]
    split
    · rename_i hn
      exact ⟨⟨by simp, by simp; omega, by simp⟩, by simp [rowval]⟩
    · rename_i hn
      obtain ⟨⟨h1, h2, h3⟩, h4⟩ := lowF_canon f (n / 10) (by omega)
      refine ⟨⟨by simp, ?_, ?_⟩, by simp only [rowval, h4]; omega⟩
      · intro x hx
        simp only [List.mem_cons] at hx
        rcases hx with rfl | hx
        · omega
        · exact h2 x hx
      · intro _
        cases hl : lowF f (n / 10) with
        | nil => exact absurd hl h1
        | cons e m =>
          rw [List.getLast?_cons_cons, ← hl]
          by_cases h10 : 1 < (lowF f (n / 10)).length
          · exact h3 h10
          · rw [hl] at h10 h4 ⊢
            have : m = [] := by cases m with
              | nil => rfl
              | cons _ _ => simp at h10
            subst this
            have : e = n / 10 := by simpa [rowval] using h4
            simp
            omega
theorem lowD_canon (n : Nat) : Canon (lowD n) := (lowF_canon (n + 1) n (by omega)).1
theorem rowval_lowD (n : Nat) : rowval (lowD n) = n := (lowF_canon (n + 1) n (by omega)).2

/-- The digits of a text, the highest first. -/
def dl (s : ByteArray) : List Nat := s.data.toList.map fun b => b.toNat - 48
/-- The number that a text of digits is. -/
def dval (s : ByteArray) : Nat := rowval (dl s).reverse
def AllDig (s : ByteArray) : Prop := ∀ k, k < s.size → 48 ≤ bt s k ∧ bt s k ≤ 57
/-- The text of a number's digits. -/
def textL (l : List Nat) : ByteArray := ⟨(l.map fun d => UInt8.ofNat (48 + d)).toArray⟩
def digs (n : Nat) : ByteArray := textL (lowD n).reverse

theorem dl_length (s : ByteArray) : (dl s).length = s.size := by unfold dl; rw [List.length_map]; exact (Lib.size_eq s).symm
theorem dl_get (s : ByteArray) (k : Nat) (h : k < s.size) : ((dl s)[k]'(by rw [dl_length]; exact h) : Int) = ((bt s k).toNat - 48 : Nat) := by
  rw [← get_bt s k h]
  simp [dl]
  rfl
theorem dl_lt {s : ByteArray} (h : AllDig s) : ∀ d ∈ dl s, d < 10 := fun d hd => by
  obtain ⟨k, hk, e⟩ := List.getElem_of_mem hd
  rw [dl_length] at hk
  have h1 := dl_get s k hk
  have h2 := h k hk
  omega
theorem textL_size (l : List Nat) : (textL l).size = l.length := by simp [textL, ByteArray.size]
theorem u8_eq {x y : UInt8} (h : (x.toNat : Int) = y.toNat) : x = y := UInt8.toNat_inj.1 (by omega)
theorem bt_textL (l : List Nat) (h : ∀ d ∈ l, d < 10) (k : Nat) (hk : k < l.length) : bt (textL l) k = 48 + (l[k] : Int) := by
  have hk' : k < (textL l).size := by rw [textL_size]; exact hk
  rw [← get_bt _ k hk']
  have e : (textL l)[k]'hk' = UInt8.ofNat (48 + l[k]) := by
    show (l.map fun d => UInt8.ofNat (48 + d)).toArray[k]'_ = _
    simp
  rw [e]
  have := h l[k] (List.getElem_mem _)
  simp
  omega
theorem textL_dig {l : List Nat} (h : ∀ d ∈ l, d < 10) : AllDig (textL l) := fun k hk => by
  rw [textL_size] at hk
  have h1 := bt_textL l h k hk
  have h2 := h l[k] (List.getElem_mem _)
  omega
/-- A text is its bytes. -/
theorem bytes_eq {s t : ByteArray} (hz : s.size = t.size) (h : ∀ k, k < s.size → bt s k = bt t k) : s = t := by
  apply ByteArray.ext
  apply Array.ext
  · exact hz
  · intro k h1 h2
    have h1' : k < s.size := h1
    have h2' : k < t.size := h2
    have e := h k h1'
    rw [← get_bt s k h1', ← get_bt t k h2'] at e
    exact u8_eq e
theorem textL_dl {s : ByteArray} (h : AllDig s) : textL (dl s) = s := by
  refine bytes_eq (by rw [textL_size, dl_length]) fun k hk => ?_
  rw [textL_size] at hk
  rw [bt_textL _ (dl_lt h) k hk]
  rw [dl_length] at hk
  have h1 := dl_get s k hk
  have h2 := h k hk
  omega
theorem dl_textL (l : List Nat) (h : ∀ d ∈ l, d < 10) : dl (textL l) = l := by
  apply List.ext_getElem
  · rw [dl_length, textL_size]
  · intro k h1 h2
    have hk : k < (textL l).size := by rw [dl_length] at h1; exact h1
    have e := dl_get (textL l) k hk
    rw [bt_textL l h k h2] at e
    omega
theorem dval_textL (l : List Nat) (h : ∀ d ∈ l, d < 10) : dval (textL l) = rowval l.reverse := by unfold dval; rw [dl_textL l h]
theorem dval_digs (n : Nat) : dval (digs n) = n := by
  unfold digs
  rw [dval_textL _ (fun d hd => (lowD_canon n).2.1 d (by simpa using hd)), List.reverse_reverse, rowval_lowD]
theorem digs_dig (n : Nat) : AllDig (digs n) := textL_dig (fun d hd => (lowD_canon n).2.1 d (by simpa using hd))
theorem digs_pos (n : Nat) : 0 < (digs n).size := by
  unfold digs
  rw [textL_size, List.length_reverse]
  exact List.length_pos_iff.2 (lowD_canon n).1

/-- A text of digits with no nought ahead, or of one digit, is the text of its number. -/
theorem digs_of {s : ByteArray} (h : AllDig s) (h0 : 0 < s.size) (h1 : 1 < s.size → bt s 0 ≠ 48) : digs (dval s) = s := by
  have hc : Canon (dl s).reverse := by
    refine ⟨?_, fun d hd => dl_lt h d (by simpa using hd), fun hl => ?_⟩
    · intro e
      have := congrArg List.length e
      rw [List.length_reverse, dl_length, List.length_nil] at this
      omega
    · rw [List.length_reverse, dl_length] at hl
      rw [List.getLast?_reverse]
      have e : (dl s).head? = some ((dl s)[0]'(by rw [dl_length]; omega)) := by
        rw [List.head?_eq_getElem?, List.getElem?_eq_getElem (by rw [dl_length]; omega)]
      rw [e]
      intro e2
      have e3 := dl_get s 0 h0
      have a1 := h1 hl
      have a2 := h 0 h0
      rw [Option.some.inj e2] at e3
      omega
  unfold digs dval
  rw [← canon_low hc, List.reverse_reverse, textL_dl h]

/-- What 'made' makes of a number: the sign, the digits, the scale, the error. -/
def madeR (neg : Bool) (n : Nat) (scale : Int) : Bool × ByteArray × Int × Int :=
  if 400 < (digs n).size ∨ 400 < scale then (false, ⟨#[]⟩, 0, 3) else (neg && n != 0, digs n, scale, 0)
/-- The value that a decimal and an error are. -/
abbrev decE (r : Bool × ByteArray × Int × Int) : Value := .tuple #[.agg #[.bool r.1, .string r.2.1, .int .i64 r.2.2.1], .int .i64 r.2.2.2]

/-- May a decimal be? -/
def rightB (neg : Bool) (ds : ByteArray) (scale : Int) : Bool :=
  decide (1 ≤ ds.size ∧ ds.size ≤ 400 ∧ 0 ≤ scale ∧ scale ≤ 400 ∧ ¬ (bt ds 0 = 48 ∧ (1 < ds.size ∨ neg = true)) ∧ ∀ k, k < ds.size → 48 ≤ bt ds k ∧ bt ds k ≤ 57)
theorem right_yes {neg : Bool} {ds : ByteArray} {scale : Int} (h1 : 1 ≤ ds.size) (h2 : ds.size ≤ 400) (h3 : 0 ≤ scale) (h4 : scale ≤ 400) (h5 : ¬ (bt ds 0 = 48 ∧ (1 < ds.size ∨ neg = true))) (h6 : ∀ k, k < ds.size → 48 ≤ bt ds k ∧ bt ds k ≤ 57) : rightB neg ds scale = true :=
  decide_eq_true ⟨h1, h2, h3, h4, h5, h6⟩
theorem right_no {neg : Bool} {ds : ByteArray} {scale : Int} (h : ¬ (1 ≤ ds.size ∧ ds.size ≤ 400 ∧ 0 ≤ scale ∧ scale ≤ 400 ∧ ¬ (bt ds 0 = 48 ∧ (1 < ds.size ∨ neg = true)))) : rightB neg ds scale = false :=
  decide_eq_false fun g => h ⟨g.1, g.2.1, g.2.2.1, g.2.2.2.1, g.2.2.2.2.1⟩
theorem right_bad {neg : Bool} {ds : ByteArray} {scale : Int} {k : Nat} (hk : k < ds.size) (h : bt ds k < 48 ∨ 57 < bt ds k) : rightB neg ds scale = false :=
  decide_eq_false fun g => by have := g.2.2.2.2.2 k hk; omega
/-- The number that Check gives. -/
def errB (b : Bool) : Int := if b then 0 else 2
theorem right_digs {neg : Bool} {ds : ByteArray} {scale : Int} (h : rightB neg ds scale = true) : digs (dval ds) = ds := by
  obtain ⟨h1, _, _, _, h5, h6⟩ := of_decide_eq_true h
  exact digs_of h6 (by omega) (fun g e => h5 ⟨e, .inl g⟩)
end Go.Proofs.YtgccppilhbannaaDoor
