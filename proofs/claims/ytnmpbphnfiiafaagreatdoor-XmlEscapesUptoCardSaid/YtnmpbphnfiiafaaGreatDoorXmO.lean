/-
  A part of XML, plain: what stands at a place of a text, and what pieces say there.
-/
import Derived.Test.YtnmpbphnfiiafaaGreatDoorXmW
namespace Go.Proofs.YtnmpbphnfiiafaaGreatDoor
open Go.RowKit Go.PlainAid

/-- These bytes stand there. -/
def At (t : ByteArray) (P : Nat) (l : List UInt8) : Prop := ∀ k (h : k < l.length), P + k < t.size ∧ bt t (P + k) = (l[k].toNat : Int)
theorem At.nil (t : ByteArray) (P : Nat) : At t P [] := fun k h => absurd h (by simp)
theorem At.left {t : ByteArray} {P : Nat} {a b : List UInt8} (h : At t P (a ++ b)) : At t P a := fun k hk => by
  have := h k (by rw [List.length_append]; omega)
  rw [List.getElem_append_left hk] at this
  exact this
theorem At.right {t : ByteArray} {P : Nat} {a b : List UInt8} (h : At t P (a ++ b)) : At t (P + a.length) b := fun k hk => by
  have := h (a.length + k) (by rw [List.length_append]; omega)
  rw [List.getElem_append_right (by omega)] at this
  simp only [Nat.add_sub_cancel_left] at this
  rw [Nat.add_assoc]
  exact this
theorem At.self (l : List UInt8) : At ⟨l.toArray⟩ 0 l := fun k hk => by
  have h1 : k < (⟨l.toArray⟩ : ByteArray).size := by simpa [ByteArray.size] using hk
  rw [Nat.zero_add]
  refine ⟨h1, ?_⟩
  rw [← get_bt _ k h1]
  rfl
theorem At.size {t : ByteArray} {P : Nat} {l : List UInt8} (h : At t P l) (hl : l ≠ []) : P + l.length ≤ t.size := by
  have hp : 0 < l.length := List.length_pos_iff.2 hl
  have := (h (l.length - 1) (by omega)).1
  omega
theorem At.head {t : ByteArray} {P : Nat} {c : UInt8} {l : List UInt8} (h : At t P (c :: l)) : P < t.size ∧ bt t P = (c.toNat : Int) := h 0 (by simp)
theorem At.tail {t : ByteArray} {P : Nat} {c : UInt8} {l : List UInt8} (h : At t P (c :: l)) : At t (P + 1) l := At.right (a := [c]) h
theorem At.extract {t : ByteArray} {P : Nat} {l : List UInt8} (h : At t P l) : t.extract P (P + l.length) = ⟨l.toArray⟩ := by
  by_cases hl : l = []
  · subst hl
    apply ByteArray.ext
    simp
  · have hs := h.size hl
    have hz : (t.extract P (P + l.length)).size = l.length := by rw [size_sub t P (P + l.length) hs]; omega
    apply ByteArray.ext
    apply Array.ext
    · exact hz
    · intro k h1 h2
      have hk : k < l.length := by simpa using h2
      have h3 := (h k hk).2
      have h4 : bt (t.extract P (P + l.length)) k = bt t (P + k) := bt_sub t P (P + l.length) k (by omega) hs
      rw [h3, ← get_bt _ k (by rw [hz]; exact hk)] at h4
      have h5 : ((t.extract P (P + l.length))[k]'(by rw [hz]; exact hk)).toNat = l[k].toNat := by exact_mod_cast h4
      have h6 := UInt8.toNat_inj.1 h5
      exact h6
theorem form_same {s t : ByteArray} {p P : Nat} (hr : ¬ rn s p < 0) (h : ∀ k, k < wd s p → bt t (P + k) = bt s (p + k)) (hz : P + wd s p ≤ t.size) : formS t P = formS s p := by
  have e := formS_wd s p
  unfold rn at hr
  unfold formS at hr e ⊢
  unfold formI at hr e ⊢
  by_cases c1 : bt s p < 128
  · rw [if_pos c1] at e
    simp only at e
    have h0 := h 0 (by omega)
    rw [Nat.add_zero, Nat.add_zero] at h0
    rw [h0, if_pos c1, if_pos c1]
  rw [if_neg c1] at e hr
  by_cases c2 : 194 ≤ bt s p ∧ bt s p ≤ 223
  · rw [if_pos c2] at e hr
    by_cases d : 2 ≤ s.size - p ∧ bt s (p + 1) / 64 = 2
    · rw [if_pos d] at e
      simp only at e
      have h0 := h 0 (by omega)
      have h1 := h 1 (by omega)
      rw [Nat.add_zero, Nat.add_zero] at h0
      rw [h0, h1, if_neg c1, if_pos c2, if_neg c1, if_pos c2, if_pos d, if_pos ⟨by omega, d.2⟩]
    · rw [if_neg d] at hr
      exact absurd (show (-1 : Int) < 0 by decide) hr
  rw [if_neg c2] at e hr
  by_cases c3 : 224 ≤ bt s p ∧ bt s p ≤ 239
  · rw [if_pos c3] at e hr
    split at hr
    · rename_i d
      rw [if_pos d] at e
      simp only at e
      have h0 := h 0 (by omega)
      have h1 := h 1 (by omega)
      have h2 := h 2 (by omega)
      rw [Nat.add_zero, Nat.add_zero] at h0
      rw [h0, h1, h2, if_neg c1, if_neg c2, if_pos c3, if_neg c1, if_neg c2, if_pos c3, if_pos d, if_pos ⟨by omega, d.2⟩]
    · exact absurd (show (-1 : Int) < 0 by decide) hr
  rw [if_neg c3] at e hr
  by_cases c4 : 240 ≤ bt s p ∧ bt s p ≤ 244
  · rw [if_pos c4] at e hr
    split at hr
    · rename_i d
      rw [if_pos d] at e
      simp only at e
      have h0 := h 0 (by omega)
      have h1 := h 1 (by omega)
      have h2 := h 2 (by omega)
      have h3 := h 3 (by omega)
      rw [Nat.add_zero, Nat.add_zero] at h0
      rw [h0, h1, h2, h3, if_neg c1, if_neg c2, if_neg c3, if_pos c4, if_neg c1, if_neg c2, if_neg c3, if_pos c4, if_pos d, if_pos ⟨by omega, d.2⟩]
    · exact absurd (show (-1 : Int) < 0 by decide) hr
  · rw [if_neg c4] at hr
    exact absurd (show (-1 : Int) < 0 by decide) hr
theorem brk_char {t : ByteArray} {P : Nat} (h : P < t.size) (hr : ¬ rn t P < 0) : brk t P = brk t (P + wd t P) := by rw [brk_step t P h, if_neg hr]
theorem ascii_form {t : ByteArray} {P : Nat} (h : bt t P < 128) : formS t P = (bt t P, 1) := by
  unfold formS formI
  rw [if_pos h]
theorem ascii_rn {t : ByteArray} {P : Nat} (h : bt t P < 128) : rn t P = bt t P := by unfold rn; rw [ascii_form h]
theorem ascii_wd {t : ByteArray} {P : Nat} (h : bt t P < 128) : wd t P = 1 := by
  have := formS_wd t P
  rw [ascii_form h] at this
  simp only at this
  omega
theorem brk_ascii : ∀ {l : List UInt8} {t : ByteArray} {P : Nat}, At t P l → (∀ c ∈ l, c.toNat < 128) → brk t P = brk t (P + l.length)
  | [], t, P, _, _ => rfl
  | c :: l, t, P, h, hc => by
    obtain ⟨h1, h2⟩ := h.head
    have h3 : bt t P < 128 := by have := hc c (by simp); omega
    have h4 := bt_nonneg t P
    rw [brk_char h1 (by rw [ascii_rn h3]; omega), ascii_wd h3, brk_ascii h.tail (fun d hd => hc d (by simp [hd])), List.length_cons]
    congr 1
    omega
/-- A piece: e is written, d is read. -/
structure Pc (e d : List UInt8) : Prop where
  ne : e ≠ []
  read : ∀ t P, At t P e → pieceX t P = .ok (P + e.length) ⟨d.toArray⟩
  whole : ∀ t P, At t P e → brk t P = brk t (P + e.length)
/-- The bytes of a text from a place on. -/
def sub (s : ByteArray) (p n : Nat) : List UInt8 := (s.data.toList.drop p).take n
theorem sub_len {s : ByteArray} {p n : Nat} (h : p + n ≤ s.size) : (sub s p n).length = n := by
  unfold sub
  rw [List.length_take, List.length_drop]
  have : s.data.toList.length = s.size := rfl
  omega
theorem sub_at {s : ByteArray} {p n k : Nat} (h : p + n ≤ s.size) (hk : k < n) (hl : k < (sub s p n).length) : ((sub s p n)[k].toNat : Int) = bt s (p + k) := by
  rw [← get_bt s (p + k) (by omega)]
  simp only [sub, List.getElem_take, List.getElem_drop]
  rfl
theorem raw_piece {s : ByteArray} {p : Nat} (hp : p < s.size) (hc : rChar (rn s p) = true) (h38 : bt s p ≠ 38) : Pc (sub s p (wd s p)) (sub s p (wd s p)) := by
  have hin := wd_in s p hp
  have hlen := sub_len hin
  have hpos := wd_pos s p hp
  have hr0 : ¬ rn s p < 0 := by
    unfold rChar at hc
    simp only [decide_eq_true_eq] at hc
    omega
  have key : ∀ t P, At t P (sub s p (wd s p)) → P < t.size ∧ formS t P = formS s p ∧ wd t P = wd s p ∧ bt t P = bt s p := fun t P h => by
    have hz := h.size (by intro e; rw [e] at hlen; simp at hlen; omega)
    rw [hlen] at hz
    have hb : ∀ k, k < wd s p → bt t (P + k) = bt s (p + k) := fun k hk => by
      rw [(h k (by rw [hlen]; exact hk)).2, sub_at hin hk]
    have hf := form_same hr0 hb hz
    have h0 := hb 0 (by omega)
    rw [Nat.add_zero, Nat.add_zero] at h0
    have hw := formS_wd t P
    rw [hf, formS_wd s p] at hw
    exact ⟨by omega, hf, by omega, h0⟩
  refine ⟨by intro e; rw [e] at hlen; simp at hlen; omega, fun t P h => ?_, fun t P h => ?_⟩
  · obtain ⟨h1, h2, h3, h4⟩ := key t P h
    unfold pieceX
    rw [if_neg (by rw [h4]; exact h38)]
    have hrt : rn t P = rn s p := by unfold rn; rw [h2]
    rw [hrt, if_pos hc, h3]
    have he := h.extract
    rw [hlen] at he ⊢
    rw [he]
  · obtain ⟨h1, h2, h3, h4⟩ := key t P h
    have hrt : rn t P = rn s p := by unfold rn; rw [h2]
    rw [brk_char h1 (by rw [hrt]; exact hr0), h3, hlen]
/-- The first semicolon. -/
theorem smF_at : ∀ {l : List UInt8} {t : ByteArray} {P f : Nat}, At t P (l ++ [59]) → (∀ c ∈ l, c ≠ 59) → l.length < f → smF t f P = some (P + l.length)
  | [], t, P, f, h, _, hf => by
    obtain ⟨f, rfl⟩ : ∃ k, f = k + 1 := ⟨f - 1, by simp at hf; omega⟩
    unfold smF
    rw [if_pos (by simpa using h.head.2)]
    rfl
  | c :: l, t, P, f, h, hc, hf => by
    obtain ⟨f, rfl⟩ : ∃ k, f = k + 1 := ⟨f - 1, by simp at hf; omega⟩
    have h1 : At t P (c :: (l ++ [59])) := h
    unfold smF
    rw [if_neg (by
      rw [h1.head.2]
      intro e
      exact hc c (by simp) (UInt8.toNat_inj.1 (by simpa using (by omega : c.toNat = 59)))), smF_at h1.tail (fun d hd => hc d (by simp [hd])) (by simp at hf; omega), List.length_cons]
    congr 1
    omega
theorem At.rest {t : ByteArray} {P q : Nat} {l : List UInt8} (h : At t (P + q) l) (hP : P ≤ t.size) : At (t.extract P t.size) q l := fun k hk => by
  obtain ⟨h1, h2⟩ := h k hk
  refine ⟨by rw [rest_size t P hP]; omega, ?_⟩
  rw [bt_extract, ← Nat.add_assoc]
  exact h2
theorem ref_at {t : ByteArray} {P : Nat} {name : List UInt8} {r : Int} (h : At t P (38 :: (name ++ [59]))) (hn : ∀ c ∈ name, c ≠ 59) (h5 : fiveX ⟨name.toArray⟩ = some r) : refX t P = some (r, name.length + 2) := by
  have hs := h.size (by simp)
  have hP : P ≤ t.size := by omega
  have h1 : At (t.extract P t.size) 1 (name ++ [59]) := h.tail.rest hP
  have hsm : semi (t.extract P t.size) 1 = some (1 + name.length) := by
    unfold semi
    exact smF_at h1 hn (by rw [rest_size t P hP]; simp at hs; omega)
  have hex : (t.extract P t.size).extract 1 (1 + name.length) = ⟨name.toArray⟩ := h1.left.extract
  unfold refX refT
  rw [hsm]
  simp only
  rw [hex, h5]
  simp only
  congr 2
  omega
theorem esc_piece {c : UInt8} (name : List UInt8) (he : escC c = 38 :: (name ++ [59])) (hn : ∀ d ∈ name, d ≠ 59) (ha : ∀ d ∈ name, d.toNat < 128) (h5 : fiveX ⟨name.toArray⟩ = some (c.toNat : Int)) (hb : (Lib.encodeRune (c.toNat : Int)) = [c]) : Pc (escC c) [c] := by
  rw [he]
  refine ⟨by simp, fun t P h => ?_, fun t P h => brk_ascii h (fun d hd => ?_)⟩
  · unfold pieceX
    rw [if_pos (by simpa using h.head.2), ref_at h hn h5]
    simp only [List.length_cons, List.length_append, List.length_nil]
    unfold encB
    rw [hb]
  · simp only [List.mem_cons, List.mem_append, List.not_mem_nil, or_false] at hd
    rcases hd with rfl | hd | rfl
    · decide
    · exact ha d hd
    · decide
theorem pc_amp : Pc (escC 38) [38] := esc_piece [97, 109, 112] rfl (by decide) (by decide) (by kernel_rfl) (by kernel_rfl)
theorem pc_lt : Pc (escC 60) [60] := esc_piece [108, 116] rfl (by decide) (by decide) (by kernel_rfl) (by kernel_rfl)
theorem pc_gt : Pc (escC 62) [62] := esc_piece [103, 116] rfl (by decide) (by decide) (by kernel_rfl) (by kernel_rfl)
theorem pc_quot : Pc (escC 34) [34] := esc_piece [113, 117, 111, 116] rfl (by decide) (by decide) (by kernel_rfl) (by kernel_rfl)
end Go.Proofs.YtnmpbphnfiiafaaGreatDoor
