/-
  Texts of whole runes, as lists of bytes. The plain law, no program in sight.
-/
import Derived.Test.YtbnhfjhhbgmhfaaDoorDpJb
namespace Go.Proofs.YtbnhfjhhbgmhfaaDoor
open Go.PlainAid

theorem formI_tells {n : Nat} {b0 b1 b2 b3 : Int} (h0 : ¬ b0 < 128) (h : 0 ≤ (formI n b0 b1 b2 b3).1) :
    ((formI n b0 b1 b2 b3).2 = 2 ∧ 2 ≤ n ∧ b1 / 64 = 2 ∧ ∀ m c2 c3, 2 ≤ m → formI m b0 b1 c2 c3 = formI n b0 b1 b2 b3) ∨
    ((formI n b0 b1 b2 b3).2 = 3 ∧ 3 ≤ n ∧ b1 / 64 = 2 ∧ b2 / 64 = 2 ∧ ∀ m c3, 3 ≤ m → formI m b0 b1 b2 c3 = formI n b0 b1 b2 b3) ∨
    ((formI n b0 b1 b2 b3).2 = 4 ∧ 4 ≤ n ∧ b1 / 64 = 2 ∧ b2 / 64 = 2 ∧ b3 / 64 = 2 ∧ ∀ m, 4 ≤ m → formI m b0 b1 b2 b3 = formI n b0 b1 b2 b3) := by
  by_cases h1 : 194 ≤ b0 ∧ b0 ≤ 223
  · have e : ∀ n b2 b3, formI n b0 b1 b2 b3 = if 2 ≤ n ∧ b1 / 64 = 2 then (b0 % 32 * 64 + b1 % 64, 2) else (-1, 1) := by
      intro n b2 b3; unfold formI; rw [if_neg h0, if_pos h1]
    rw [e] at h ⊢
    by_cases h2 : 2 ≤ n ∧ b1 / 64 = 2
    · left
      rw [if_pos h2]
      exact ⟨rfl, h2.1, h2.2, fun m c2 c3 hm => by rw [e, if_pos ⟨hm, h2.2⟩]⟩
    · rw [if_neg h2] at h
      exact absurd h (by decide)
  · by_cases h2 : 224 ≤ b0 ∧ b0 ≤ 239
    · have e : ∀ n b3, formI n b0 b1 b2 b3 = if 3 ≤ n ∧ b1 / 64 = 2 ∧ b2 / 64 = 2 ∧ 2048 ≤ (b0 % 16 * 64 + b1 % 64) * 64 + b2 % 64 ∧ ((b0 % 16 * 64 + b1 % 64) * 64 + b2 % 64 < 55296 ∨ 57343 < (b0 % 16 * 64 + b1 % 64) * 64 + b2 % 64)
          then ((b0 % 16 * 64 + b1 % 64) * 64 + b2 % 64, 3) else (-1, 1) := by
        intro n b3; unfold formI; rw [if_neg h0, if_neg h1, if_pos h2]
      rw [e] at h ⊢
      split at h
      · rename_i hc
        right; left
        rw [if_pos hc]
        exact ⟨rfl, hc.1, hc.2.1, hc.2.2.1, fun m c3 hm => by rw [e, if_pos ⟨hm, hc.2⟩]⟩
      · exact absurd h (by decide)
    · by_cases h3 : 240 ≤ b0 ∧ b0 ≤ 244
      · have e : ∀ n, formI n b0 b1 b2 b3 = if 4 ≤ n ∧ b1 / 64 = 2 ∧ b2 / 64 = 2 ∧ b3 / 64 = 2 ∧ 65536 ≤ ((b0 % 8 * 64 + b1 % 64) * 64 + b2 % 64) * 64 + b3 % 64 ∧ ((b0 % 8 * 64 + b1 % 64) * 64 + b2 % 64) * 64 + b3 % 64 ≤ 1114111
            then (((b0 % 8 * 64 + b1 % 64) * 64 + b2 % 64) * 64 + b3 % 64, 4) else (-1, 1) := by
          intro n; unfold formI; rw [if_neg h0, if_neg h1, if_neg h2, if_pos h3]
        rw [e] at h ⊢
        split at h
        · rename_i hc
          right; right
          rw [if_pos hc]
          exact ⟨rfl, hc.1, hc.2.1, hc.2.2.1, hc.2.2.2.1, fun m hm => by rw [e, if_pos ⟨hm, hc.2⟩]⟩
        · exact absurd h (by decide)
      · have e : formI n b0 b1 b2 b3 = (-1, 1) := by unfold formI; rw [if_neg h0, if_neg h1, if_neg h2, if_neg h3]
        rw [e] at h
        exact absurd h (by decide)
/-- The bytes of one rune that is right and has more than one byte. -/
def Blk4 (b : List UInt8) : Prop := (∀ c ∈ b, 128 ≤ c.toNat) ∧ 2 ≤ b.length ∧ ∀ (s : ByteArray) (i : Nat), BAt s i b → ¬ rn s i < 0 ∧ wd s i = b.length
/-- Bytes of whole runes. -/
inductive VL : List UInt8 → Prop
  | nil : VL []
  | one {c : UInt8} {t : List UInt8} : c.toNat < 128 → VL t → VL (c :: t)
  | blk {b t : List UInt8} : Blk4 b → VL t → VL (b ++ t)
theorem VL.append {a b : List UInt8} (ha : VL a) (hb : VL b) : VL (a ++ b) := by
  induction ha with
  | nil => exact hb
  | one h _ ih => exact .one h ih
  | blk h _ ih => rw [List.append_assoc]; exact .blk h ih
theorem dblL_big {b : List UInt8} (h : ∀ c ∈ b, 128 ≤ c.toNat) : dblL b = b := by
  induction b with
  | nil => rfl
  | cons c b ih =>
    have hc : c ≠ 39 := fun e => by have := h c (by simp); subst e; revert this; decide
    rw [dblL_other hc, ih fun x hx => h x (List.mem_cons_of_mem _ hx)]
theorem VL.dbl {a : List UInt8} (ha : VL a) : VL (dblL a) := by
  induction ha with
  | nil => exact .nil
  | @one c t h _ ih =>
    by_cases hc : c = 39
    · subst hc; exact .one h (.one h ih)
    · rw [dblL_other hc]; exact .one h ih
  | blk h _ ih => rw [dblL_append, dblL_big h.1]; exact .blk h ih
/-- Cut before a byte below 128. -/
theorem VL.cut {l : List UInt8} (h : VL l) : ∀ (a : List UInt8) (c : UInt8) (r : List UInt8), l = a ++ c :: r → c.toNat < 128 → VL a ∧ VL r := by
  induction h with
  | nil => intro a c r e; simp at e
  | @one d t hd ht ih =>
    intro a c r e hc
    cases a with
    | nil => injection e with e1 e2; subst e2; exact ⟨.nil, ht⟩
    | cons x a =>
      injection e with e1 e2
      obtain ⟨h1, h2⟩ := ih a c r e2 hc
      subst e1
      exact ⟨.one hd h1, h2⟩
  | @blk b t hb ht ih =>
    intro a c r e hc
    rcases List.append_eq_append_iff.1 e with ⟨w, h1, h2⟩ | ⟨w, h1, h2⟩
    · obtain ⟨h3, h4⟩ := ih w c r h2 hc
      rw [h1]
      exact ⟨.blk hb h3, h4⟩
    · cases w with
      | nil =>
        rw [List.append_nil] at h1
        obtain ⟨h3, h4⟩ := ih [] c r h2.symm hc
        subst h1
        have := VL.blk hb .nil
        rw [List.append_nil] at this
        exact ⟨this, h4⟩
      | cons x w =>
        injection h2 with h3 _
        have := hb.1 c (by rw [h1, h3]; simp)
        omega
theorem VL.skip {t : List UInt8} (h : VL t) : ∀ (s : ByteArray) (i : Nat), BAt s i t → brk s i = brk s (i + t.length) := by
  induction h with
  | nil => intro s i _; rfl
  | @one c t hc _ ih =>
    intro s i h
    obtain ⟨hi, hb⟩ := h.head
    have hf : formS s i = (bt s i, 1) := by unfold formS formI; rw [if_pos (by omega)]
    have hr : rn s i = bt s i := by unfold rn; rw [hf]
    have hw : wd s i = 1 := by have := formS_wd s i; rw [hf] at this; simp at this; omega
    rw [brk_step s i hi, if_neg (by rw [hr, hb]; omega), hw, ih s (i + 1) h.tail, List.length_cons, show i + 1 + t.length = i + (t.length + 1) by omega]
  | @blk b t hb _ ih =>
    intro s i h
    obtain ⟨hr, hw⟩ := hb.2.2 s i h.left
    have hi : i < s.size := by have := h.left.1; have := hb.2.1; omega
    rw [brk_step s i hi, if_neg hr, hw, ih s _ h.right, List.length_append, Nat.add_assoc]
theorem VL.valid {t : ByteArray} (h : VL t.data.toList) : brk t 0 < 0 := by
  have hsz : t.size = t.data.toList.length := by rw [Array.length_toList]; rfl
  have hat : BAt t 0 t.data.toList := ⟨by omega, fun k hk => by rw [Nat.zero_add, bt_list t k hk]⟩
  rw [h.skip t 0 hat, brk_end t _ (by omega)]
  decide
theorem BAt.self (s : ByteArray) (i n : Nat) (h : i + n ≤ s.size) : BAt s i ((s.data.toList.drop i).take n) := by
  have hsz : s.data.toList.length = s.size := Array.length_toList
  refine ⟨by rw [List.length_take, List.length_drop]; omega, fun k hk => ?_⟩
  rw [List.length_take, List.length_drop] at hk
  rw [List.getElem_take, List.getElem_drop, bt_list s (i + k) (by omega)]
/-- A right rune of more than one byte is a block. -/
theorem blk_at {s : ByteArray} {i : Nat} (hi : i < s.size) (h1 : ¬ bt s i < 128) (hr : ¬ rn s i < 0) : 2 ≤ wd s i ∧ i + wd s i ≤ s.size ∧ Blk4 ((s.data.toList.drop i).take (wd s i)) := by
  have hw := formS_wd s i
  have hin := wd_in s i hi
  have hlen : ((s.data.toList.drop i).take (wd s i)).length = wd s i := by
    have hsz : s.data.toList.length = s.size := Array.length_toList
    rw [List.length_take, List.length_drop]; omega
  have hat := BAt.self s i (wd s i) hin
  have h0 : 0 ≤ (formI (s.size - i) (bt s i) (bt s (i + 1)) (bt s (i + 2)) (bt s (i + 3))).1 := by
    have h : 0 ≤ rn s i := by omega
    exact h
  have hw' : (formI (s.size - i) (bt s i) (bt s (i + 1)) (bt s (i + 2)) (bt s (i + 3))).2 = (wd s i : Int) := hw
  generalize hb : (s.data.toList.drop i).take (wd s i) = b at *
  have hbyte : ∀ (u : ByteArray) (j : Nat), BAt u j b → ∀ k, k < wd s i → bt u (j + k) = bt s (i + k) := by
    intro u j hu k hk
    rw [hu.2 k (by omega), hat.2 k (by omega)]
  have hbig : ∀ (hall : ∀ k, k < wd s i → 128 ≤ bt s (i + k)), ∀ c ∈ b, 128 ≤ c.toNat := by
    intro hall c hc
    obtain ⟨k, hk, rfl⟩ := List.mem_iff_getElem.1 hc
    have := hall k (by omega)
    rw [hat.2 k hk] at this
    omega
  have fin : ∀ (hall : ∀ k, k < wd s i → 128 ≤ bt s (i + k)) (h2 : 2 ≤ wd s i) (hsame : ∀ (u : ByteArray) (j : Nat), BAt u j b → formS u j = formS s i), 2 ≤ wd s i ∧ i + wd s i ≤ s.size ∧ Blk4 b := by
    intro hall h2 hsame
    refine ⟨h2, hin, hbig hall, by omega, fun u j hu => ?_⟩
    have e := hsame u j hu
    have e2 := formS_wd u j
    rw [e, hw] at e2
    exact ⟨by show ¬ (formS u j).1 < 0; rw [e]; exact hr, by omega⟩
  rcases formI_tells h1 h0 with ⟨w, hn, b1, hs⟩ | ⟨w, hn, b1, b2, hs⟩ | ⟨w, hn, b1, b2, b3, hs⟩
  · have hw2 : wd s i = 2 := by omega
    refine fin (fun k hk => ?_) (by omega) (fun u j hu => ?_)
    · rcases (by omega : k = 0 ∨ k = 1) with rfl | rfl
      · rw [Nat.add_zero]; omega
      · omega
    · have a0 := hbyte u j hu 0 (by omega)
      have a1 := hbyte u j hu 1 (by omega)
      rw [Nat.add_zero, Nat.add_zero] at a0
      have := hu.1
      unfold formS
      rw [a0, a1, hs _ _ _ (by omega)]
  · have hw2 : wd s i = 3 := by omega
    refine fin (fun k hk => ?_) (by omega) (fun u j hu => ?_)
    · rcases (by omega : k = 0 ∨ k = 1 ∨ k = 2) with rfl | rfl | rfl
      · rw [Nat.add_zero]; omega
      · omega
      · omega
    · have a0 := hbyte u j hu 0 (by omega)
      have a1 := hbyte u j hu 1 (by omega)
      have a2 := hbyte u j hu 2 (by omega)
      rw [Nat.add_zero, Nat.add_zero] at a0
      have := hu.1
      unfold formS
      rw [a0, a1, a2, hs _ _ (by omega)]
  · have hw2 : wd s i = 4 := by omega
    refine fin (fun k hk => ?_) (by omega) (fun u j hu => ?_)
    · rcases (by omega : k = 0 ∨ k = 1 ∨ k = 2 ∨ k = 3) with rfl | rfl | rfl | rfl
      · rw [Nat.add_zero]; omega
      · omega
      · omega
      · omega
    · have a0 := hbyte u j hu 0 (by omega)
      have a1 := hbyte u j hu 1 (by omega)
      have a2 := hbyte u j hu 2 (by omega)
      have a3 := hbyte u j hu 3 (by omega)
      rw [Nat.add_zero, Nat.add_zero] at a0
      have := hu.1
      unfold formS
      rw [a0, a1, a2, a3, hs _ (by omega)]
/-- A text without a broken byte from a place on is made of whole runes there. -/
theorem VL.of_brk (s : ByteArray) : ∀ (f i : Nat), s.size - i = f → i ≤ s.size → brk s i < 0 → VL (s.data.toList.drop i)
  | f, i, hf, hi, h => by
    have hsz : s.data.toList.length = s.size := Array.length_toList
    by_cases hlt : i < s.size
    · rw [brk_step s i hlt] at h
      by_cases hr : rn s i < 0
      · rw [if_pos hr] at h; omega
      · rw [if_neg hr] at h
        have hp := wd_pos s i hlt
        have hin := wd_in s i hlt
        have ih := VL.of_brk s (s.size - (i + wd s i)) (i + wd s i) rfl hin h
        by_cases h1 : bt s i < 128
        · have hfm : formS s i = (bt s i, 1) := by unfold formS formI; rw [if_pos h1]
          have hw : wd s i = 1 := by have := formS_wd s i; rw [hfm] at this; simp at this; omega
          rw [hw] at ih
          rw [List.drop_eq_getElem_cons (by omega)]
          refine .one ?_ ih
          rw [bt_list s i (by omega)] at h1
          omega
        · obtain ⟨_, _, hb⟩ := blk_at hlt h1 hr
          rw [← List.take_append_drop (wd s i) (s.data.toList.drop i), List.drop_drop]
          exact .blk hb ih
    · rw [List.drop_of_length_le (by omega)]
      exact .nil
  termination_by f => f
  decreasing_by all_goals omega
theorem VL.of_valid {s : ByteArray} (h : brk s 0 < 0) : VL s.data.toList := by
  have := VL.of_brk s _ 0 rfl (Nat.zero_le _) h
  rwa [List.drop_zero] at this
theorem bLetter_lt {b : Int} (h : bLetter b = true) : b < 128 := by
  have := of_decide_eq_true h
  omega
theorem VL.dress {t : ByteArray} (h : VL t.data.toList) : VL (dress t).data.toList := by
  rcases dress_split t with ⟨_, hd⟩ | ⟨a, x, m, r, hc, hx, _, _, hd, hm⟩
  · rw [hd, baL_list]
    exact h.dbl
  · rw [hd, baL_list]
    have hx1 : x.toNat < 128 := by have := bLetter_lt hx; omega
    obtain ⟨ha, hmr⟩ := h.cut a x (m ++ r) hc hx1
    have hmr2 : VL m ∧ VL r := by
      rcases hm with rfl | ⟨n, y, rfl, hy⟩
      · exact ⟨.nil, hmr⟩
      · have hy1 : y.toNat < 128 := by have := bLetter_lt hy; omega
        obtain ⟨h1, h2⟩ := hmr.cut n y r (by simp) hy1
        exact ⟨h1.append (.one hy1 .nil), h2⟩
    exact ha.dbl.append (.one (by decide) ((VL.one hx1 hmr2.1).dbl.append (.one (by decide) hmr2.2.dbl)))
theorem VL.rep {n : Nat} {b : Int} (h0 : 0 ≤ b) (h1 : b < 128) : VL (repB n b).data.toList := by
  have key : ∀ n, VL (List.replicate n (UInt8.ofNat b.toNat)) := by
    intro n
    induction n with
    | zero => exact .nil
    | succ n ih =>
      rw [List.replicate_succ]
      refine .one ?_ ih
      show b.toNat % 256 < 128
      omega
  exact key n
/-- What Print writes of fields that may be has no broken byte. -/
theorem VL.print : ∀ (l : List PF) (p : Int), (∀ x ∈ l, 0 ≤ x.1 ∧ x.1 ≤ 255) → mayF p l = true → VL (printT l).data.toList
  | [], _, _, _ => .nil
  | x :: l, p, hl, h => by
    have h' : (fldB x && p != x.1 && mayF x.1 l) = true := h
    simp only [Bool.and_eq_true, bne_iff_ne] at h'
    obtain ⟨⟨h1, h2⟩, h3⟩ := h'
    have hc := fldB_count h1
    have ih := VL.print l x.1 (fun y hy => hl y (List.mem_cons_of_mem _ hy)) h3
    have hx := hl x (by simp)
    obtain ⟨xb, xc, xt⟩ := x
    simp only at hc hx
    rw [printT_cons, ByteArray.data_append, Array.toList_append]
    refine VL.append ?_ ih
    by_cases h0 : xb = 0
    · subst h0
      unfold fldB at h1
      rw [if_pos rfl] at h1
      rw [hc.2.2.1 rfl, piece_text rfl]
      exact (VL.of_valid (of_decide_eq_true h1).2.2).dress
    · obtain ⟨ht, hr, hc3⟩ := hc.2.2.2 h0
      obtain ⟨n, rfl⟩ : ∃ n : Nat, xc = (n : Int) := ⟨xc.toNat, by omega⟩
      rw [piece_letter ht]
      exact VL.rep hx.1 (bLetter_lt (rank_bLetter hr))
/-- Printed and read again: the same fields. -/
theorem parse_print {l : List PF} (hl : ∀ x ∈ l, 0 ≤ x.1 ∧ x.1 ≤ 255) (h : mayB l = true) (hs : (printT l).size ≤ 4096) : dpParse (printT l) = (l, 0, 0) := by
  have hv := (VL.print l (-1) hl h).valid
  unfold dpParse
  rw [if_neg (by omega), if_neg (by omega)]
  have := read_back l (-1) [] ByteArray.empty hl h (.inl ⟨rfl, by decide⟩)
  rwa [ByteArray.empty_append, List.nil_append] at this
end Go.Proofs.YtbnhfjhhbgmhfaaDoor
