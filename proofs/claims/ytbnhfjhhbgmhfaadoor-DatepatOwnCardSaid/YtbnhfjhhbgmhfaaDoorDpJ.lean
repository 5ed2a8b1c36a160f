/-
  Patterns of dates: what Print wrote is read as it was. The plain law, no program in sight. First: a text's bytes, read.
-/
import Derived.Test.YtbnhfjhhbgmhfaaDoorDpL
namespace Go.Proofs.YtbnhfjhhbgmhfaaDoor
open Go.PlainAid

/-- Bytes that stand in a text from a place on. -/
def BAt (s : ByteArray) (i : Nat) (B : List UInt8) : Prop := i + B.length ≤ s.size ∧ ∀ k (h : k < B.length), bt s (i + k) = (B[k].toNat : Int)
theorem BAt.head {s : ByteArray} {i : Nat} {x : UInt8} {B : List UInt8} (h : BAt s i (x :: B)) : i < s.size ∧ bt s i = (x.toNat : Int) := by
  have h1 := h.1
  have h2 := h.2 0 (by simp)
  simp at h1 h2
  exact ⟨by omega, h2⟩
theorem BAt.tail {s : ByteArray} {i : Nat} {x : UInt8} {B : List UInt8} (h : BAt s i (x :: B)) : BAt s (i + 1) B := by
  refine ⟨by have := h.1; simp at this; omega, fun k hk => ?_⟩
  have := h.2 (k + 1) (by simp; omega)
  simp at this
  rw [← this]
  congr 1
  omega
theorem BAt.left {s : ByteArray} {i : Nat} {A B : List UInt8} (h : BAt s i (A ++ B)) : BAt s i A := by
  refine ⟨by have := h.1; simp at this; omega, fun k hk => ?_⟩
  have := h.2 k (by simp; omega)
  rwa [List.getElem_append_left hk] at this
theorem BAt.right {s : ByteArray} {i : Nat} {A B : List UInt8} (h : BAt s i (A ++ B)) : BAt s (i + A.length) B := by
  refine ⟨by have := h.1; simp at this; omega, fun k hk => ?_⟩
  have := h.2 (A.length + k) (by simp; omega)
  rw [List.getElem_append_right (by omega)] at this
  simp at this
  rw [← this]
  congr 1
  omega
def baL (t : List UInt8) : ByteArray := ⟨t.toArray⟩
theorem baL_append (a b : List UInt8) : baL (a ++ b) = baL a ++ baL b := by
  apply ByteArray.ext
  simp [baL]
theorem one_at {s : ByteArray} {i : Nat} {c : UInt8} (hi : i < s.size) (h : bt s i = (c.toNat : Int)) : s.extract i (i + 1) = baL [c] := by
  have hg : s.get! i = c := by
    have : (s.get! i).toNat = c.toNat := by have := get!_bt s i; omega
    exact UInt8.toNat_inj.1 this
  have hd : i < s.data.size := hi
  apply ByteArray.ext
  rw [← hg]
  apply Array.ext
  · simp [baL]; omega
  · intro k h1 h2
    simp [baL] at h2
    subst h2
    simp only [baL, ByteArray.get!, ByteArray.data_extract, Array.getElem_extract, List.getElem_toArray]
    exact (getElem!_pos s.data i hd).symm
def dblL (t : List UInt8) : List UInt8 := t.flatMap fun c => if c = 39 then [39, 39] else [c]
theorem dblL_quote (t : List UInt8) : dblL (39 :: t) = 39 :: 39 :: dblL t := rfl
theorem dblL_other {c : UInt8} (h : c ≠ 39) (t : List UInt8) : dblL (c :: t) = c :: dblL t := by
  unfold dblL
  rw [List.flatMap_cons, if_neg h]
  rfl
theorem dblB_list (t : ByteArray) : dblB t = baL (dblL t.data.toList) := rfl
/-- A text put behind fields, if there is one. -/
def putB (l : List PF) (t : List UInt8) : List PF := if t = [] then l else putR l (baL t)
theorem putB_putR (l : List PF) (a : ByteArray) (t : List UInt8) : putB (putR l a) t = putR l (a ++ baL t) := by
  unfold putB
  by_cases h : t = []
  · subst h
    rw [if_pos rfl, show baL [] = ⟨#[]⟩ from rfl]
    congr 1
    apply ByteArray.ext
    simp
  · rw [if_neg h, putR_putR]
theorem u8_39 {c : UInt8} (h : c ≠ 39) : (c.toNat : Int) ≠ 39 := fun e => h (UInt8.toNat_inj.1 (by have : (39 : UInt8).toNat = 39 := rfl; omega))
/-- A text without letters, read. -/
theorem plain_read {s : ByteArray} : ∀ (t : List UInt8) (i : Nat) (l : List PF), (∀ c ∈ t, bLetter (c.toNat : Int) = false) → BAt s i (dblL t) → pR s i l = pR s (i + (dblL t).length) (putB l t)
  | [], i, l, _, _ => rfl
  | c :: t, i, l, hL, h => by
    have hLt : ∀ c ∈ t, bLetter (c.toNat : Int) = false := fun x hx => hL x (List.mem_cons_of_mem _ hx)
    by_cases hc : c = 39
    · subst hc
      rw [dblL_quote] at h ⊢
      obtain ⟨hi, hb⟩ := h.head
      obtain ⟨hi2, hb2⟩ := h.tail.head
      have hb : bt s i = 39 := hb
      have hb2 : bt s (i + 1) = 39 := hb2
      rw [pR_step hi, hb, if_neg (by decide), if_neg (by decide), if_pos ⟨hi2, hb2⟩, plain_read t (i + 2) _ hLt h.tail.tail, putB_putR]
      simp only [List.length_cons]
      rw [show i + 2 + (dblL t).length = i + ((dblL t).length + 1 + 1) by omega]
      congr 1
    · rw [dblL_other hc] at h ⊢
      obtain ⟨hi, hb⟩ := h.head
      rw [pR_step hi, one_at hi hb, hb, hL c (by simp), if_neg (by decide), if_pos (u8_39 hc), plain_read t (i + 1) _ hLt h.tail, putB_putR]
      simp only [List.length_cons]
      rw [show i + 1 + (dblL t).length = i + ((dblL t).length + 1) by omega]
      congr 1
/-- What stands in a quote, read. -/
theorem quote_read {s : ByteArray} : ∀ (t : List UInt8) (i : Nat) (acc : ByteArray), BAt s i (dblL t) → qR s i acc = qR s (i + (dblL t).length) (acc ++ baL t)
  | [], i, acc, _ => by
    rw [show acc ++ baL [] = acc by apply ByteArray.ext; simp [baL]]
    rfl
  | c :: t, i, acc, h => by
    by_cases hc : c = 39
    · subst hc
      rw [dblL_quote] at h ⊢
      obtain ⟨hi, hb⟩ := h.head
      obtain ⟨hi2, hb2⟩ := h.tail.head
      rw [qR_two hi2 hb hb2, quote_read t (i + 2) _ h.tail.tail]
      simp only [List.length_cons]
      rw [show i + 2 + (dblL t).length = i + ((dblL t).length + 1 + 1) by omega, ByteArray.append_assoc]
      rw [show baL (39 :: t) = baL [39] ++ baL t from baL_append [39] t]; rfl
    · rw [dblL_other hc] at h ⊢
      obtain ⟨hi, hb⟩ := h.head
      rw [qR_plain hi (by rw [hb]; exact u8_39 hc), one_at hi hb, quote_read t (i + 1) _ h.tail]
      simp only [List.length_cons]
      rw [show i + 1 + (dblL t).length = i + ((dblL t).length + 1) by omega, ByteArray.append_assoc]
      rw [show baL (c :: t) = baL [c] ++ baL t from baL_append [c] t]
/-- A closing quote, and what stands behind it. -/
theorem close_read {s : ByteArray} : ∀ (r : List UInt8) (i : Nat) (acc : ByteArray) (l : List PF), (∀ c ∈ r, bLetter (c.toNat : Int) = false) → BAt s i (39 :: dblL r) → (i + 1 + (dblL r).length < s.size → bt s (i + 1 + (dblL r).length) ≠ 39) →
    ∃ t j, qR s i acc = some (t, j) ∧ pR s j (putR l t) = pR s (i + 1 + (dblL r).length) (putR l (acc ++ baL r))
  | [], i, acc, l, _, h, hn => by
    obtain ⟨hi, hb⟩ := h.head
    refine ⟨acc, i + 1, qR_close hi hb (fun hh => hn hh.1 hh.2), ?_⟩
    rw [show acc ++ baL [] = acc by apply ByteArray.ext; simp [baL]]
    rfl
  | c :: r, i, acc, l, hL, h, hn => by
    obtain ⟨hi, hb⟩ := h.head
    by_cases hc : c = 39
    · subst hc
      rw [dblL_quote] at h hn ⊢
      obtain ⟨hi2, hb2⟩ := h.tail.head
      simp only [List.length_cons] at hn ⊢
      obtain ⟨t, j, h1, h2⟩ := close_read r (i + 2) (acc ++ baL [39]) l (fun x hx => hL x (List.mem_cons_of_mem _ hx)) h.tail.tail (by rw [show i + 2 + 1 + (dblL r).length = i + 1 + ((dblL r).length + 1 + 1) by omega]; exact hn)
      refine ⟨t, j, (qR_two hi2 hb hb2).trans h1, h2.trans ?_⟩
      rw [show i + 2 + 1 + (dblL r).length = i + 1 + ((dblL r).length + 1 + 1) by omega, ByteArray.append_assoc, ← baL_append]
      rfl
    · have ht := h.tail
      rw [dblL_other hc] at ht
      obtain ⟨hi2, hb2⟩ := ht.head
      refine ⟨acc, i + 1, qR_close hi hb (fun hh => u8_39 hc (hb2.symm.trans hh.2)), ?_⟩
      rw [plain_read (c :: r) (i + 1) _ hL h.tail, putB_putR]
theorem fst_says (t : ByteArray) : ∀ k, (fstF t k 0 < 0 ∧ ∀ j, j < k → bLetter (bt t j) = false) ∨ ∃ f : Nat, fstF t k 0 = (f : Int) ∧ f < k ∧ bLetter (bt t f) = true ∧ ∀ j, j < f → bLetter (bt t j) = false
  | 0 => .inl ⟨by show (-1 : Int) < 0; omega, fun j hj => by omega⟩
  | k + 1 => by
    rw [fstF_next]
    rcases fst_says t k with ⟨h, hn⟩ | ⟨f, h, hf, hl, hn⟩
    · rw [if_pos h]
      by_cases hb : bLetter (bt t k) = true
      · rw [if_pos hb]
        exact .inr ⟨k, rfl, by omega, hb, hn⟩
      · rw [if_neg hb]
        refine .inl ⟨by omega, fun j hj => ?_⟩
        by_cases hjk : j = k
        · subst hjk; simpa using hb
        · exact hn j (by omega)
    · rw [if_neg (by omega)]
      exact .inr ⟨f, h, by omega, hl, hn⟩
theorem lst_says (t : ByteArray) : ∀ k, lstF t k < 0 ∨ ∃ f : Nat, lstF t k = (f : Int) ∧ f < k ∧ bLetter (bt t f) = true ∧ ∀ j, f < j → j < k → bLetter (bt t j) = false
  | 0 => .inl (by show (-1 : Int) < 0; omega)
  | k + 1 => by
    rw [show lstF t (k + 1) = (if bLetter (bt t k) = true then (k : Int) else lstF t k) from rfl]
    by_cases hb : bLetter (bt t k) = true
    · rw [if_pos hb]
      exact .inr ⟨k, rfl, by omega, hb, fun j h1 h2 => by omega⟩
    · rw [if_neg hb]
      rcases lst_says t k with h | ⟨f, h, hf, hl, hn⟩
      · exact .inl h
      · refine .inr ⟨f, h, by omega, hl, fun j h1 h2 => ?_⟩
        by_cases hjk : j = k
        · subst hjk; simpa using hb
        · exact hn j h1 (by omega)
theorem bt_list (t : ByteArray) (k : Nat) (h : k < t.data.toList.length) : bt t k = ((t.data.toList[k]).toNat : Int) := by
  have hk : k < t.data.size := by simpa using h
  rw [← get!_bt]
  show ((t.data[k]!).toNat : Int) = _
  rw [getElem!_pos t.data k hk]
  simp
theorem dblL_append (a b : List UInt8) : dblL (a ++ b) = dblL a ++ dblL b := by unfold dblL; rw [List.flatMap_append]
theorem ext_list (t : ByteArray) (i j : Nat) : (t.extract i j).data.toList = (t.data.toList.take j).drop i := by
  rw [ByteArray.data_extract, Array.toList_extract, List.extract_eq_take_drop, List.drop_take]
theorem baL_toList (t : ByteArray) : baL t.data.toList = t := by apply ByteArray.ext; simp [baL]
/-- How Print writes a text. -/
theorem dress_split (t : ByteArray) : ((∀ c ∈ t.data.toList, bLetter (c.toNat : Int) = false) ∧ dress t = baL (dblL t.data.toList)) ∨
    ∃ a x m r, t.data.toList = a ++ x :: (m ++ r) ∧ bLetter (x.toNat : Int) = true ∧ (∀ c ∈ a, bLetter (c.toNat : Int) = false) ∧ (∀ c ∈ r, bLetter (c.toNat : Int) = false) ∧ dress t = baL (dblL a ++ 39 :: (dblL (x :: m) ++ 39 :: dblL r)) ∧ (m = [] ∨ ∃ n y, m = n ++ [y] ∧ bLetter (y.toNat : Int) = true) := by
  have hsz : t.size = t.data.toList.length := by rw [Array.length_toList]; rfl
  unfold dress dressB
  rcases fst_says t t.size with ⟨h, hn⟩ | ⟨f, h, hf, hl, hn⟩
  · left
    refine ⟨fun c hc => ?_, by rw [if_pos (show fstL t < 0 from h)]; rfl⟩
    obtain ⟨k, hk, rfl⟩ := List.mem_iff_getElem.1 hc
    rw [← bt_list t k hk]
    exact hn k (by omega)
  · right
    have h' : fstL t = (f : Int) := h
    rw [h', if_neg (by omega)]
    have hfl := fst_lst t t.size
    rcases lst_says t t.size with g | ⟨e, g, he, gl, gn⟩
    · have := hfl.2; omega
    · have hfe : f ≤ e := by have := hfl.2; omega
      have g' : lstL t = (e : Int) := g
      rw [g', show ((f : Int)).toNat = f by omega, show ((e : Int) + 1).toNat = e + 1 by omega]
      have hfx : f < t.data.toList.length := by omega
      have hcut : t.data.toList = t.data.toList.take f ++ t.data.toList[f] :: ((t.data.toList.take (e + 1)).drop (f + 1) ++ t.data.toList.drop (e + 1)) := by
        rw [← List.cons_append, ← List.getElem_take (j := e + 1) (h := by simp; omega), ← List.drop_eq_getElem_cons, ← List.append_assoc]
        conv => lhs; rw [← List.take_append_drop (e + 1) t.data.toList]
        congr 1
        conv => lhs; rw [← List.take_append_drop f (t.data.toList.take (e + 1))]
        rw [List.take_take, Nat.min_eq_left (by omega)]
      refine ⟨t.data.toList.take f, t.data.toList[f], (t.data.toList.take (e + 1)).drop (f + 1), t.data.toList.drop (e + 1), hcut, by rw [← bt_list t f hfx]; exact hl, fun c hc => ?_, fun c hc => ?_, ?_, ?_⟩
      · obtain ⟨k, hk, rfl⟩ := List.mem_iff_getElem.1 hc
        rw [List.getElem_take, ← bt_list]
        exact hn k (by simp at hk; omega)
      · obtain ⟨k, hk, rfl⟩ := List.mem_iff_getElem.1 hc
        rw [List.getElem_drop, ← bt_list]
        exact gn _ (by omega) (by simp at hk; omega)
      · rw [dblB_list, dblB_list, dblB_list, ext_list, ext_list, ext_list]
        simp only [List.drop_zero]
        have e1 : (t.data.toList.take (e + 1)).drop f = t.data.toList[f] :: (t.data.toList.take (e + 1)).drop (f + 1) := by
          rw [List.drop_eq_getElem_cons (by simp; omega), List.getElem_take]
        rw [e1, show t.data.toList.take t.size = t.data.toList from List.take_of_length_le (by omega), show (⟨#[39]⟩ : ByteArray) = baL [39] from rfl]
        simp only [← baL_append]
        congr 1
        simp
      · by_cases hfe' : f = e
        · left
          rw [List.drop_eq_nil_of_le (by simp; omega)]
        · right
          have hex : e < t.data.toList.length := by omega
          refine ⟨(t.data.toList.take e).drop (f + 1), t.data.toList[e], ?_, by rw [← bt_list t e hex]; exact gl⟩
          rw [List.take_succ_eq_append_getElem hex, List.drop_append_of_le_length (by simp; omega)]
end Go.Proofs.YtbnhfjhhbgmhfaaDoor
