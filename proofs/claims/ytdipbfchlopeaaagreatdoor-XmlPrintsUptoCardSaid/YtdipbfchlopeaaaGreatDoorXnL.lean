/-
  A part of XML, plain: what stands at a place of a text, and what pieces say there.
  A part of XML, plain: a text that is written with references is read as it was.
  A part of XML, plain: runs of names, values and texts; the file of XmlThere.
  A part of XML, plain: the file of XmlThere.
  A part of XML, plain: how tokens are written; files that are dressed.
  A part of XML, plain: what is read of dressed attributes, begins, ends, comments, texts.
  A part of XML, plain: what is read of a dressed file.
  A part of XML, plain: a dressed file is read as its tokens.
-/
import Derived.Test.YtdipbfchlopeaaaGreatDoorXnJ
namespace Go.Proofs.YtdipbfchlopeaaaGreatDoor
section
open Go.RowKit Go.PlainAid

/-- These bytes stand there. -/
def At (t : ByteArray) (P : Nat) (l : List UInt8) : Prop := ∀ k (h : k < l.length), P + k < t.size ∧ bt t (P + k) = (l[k].toNat : Int)
theorem At.nil (t : ByteArray) (P : Nat) : At t P [] := fun k h => absurd h (by simp)
theorem At.left {t : ByteArray} {P : Nat} {a b : List UInt8} (h : At t P (a ++ b)) : At t P a := fun k hk => by
  have := h k (by rw [List.length_append]; omega)
  rw [List.getElem_append_left hk] at this
  exact this
theorem At.right {t : ByteArray} {P : Nat} {a b : List UInt8} (h : At t P (a ++ b)) : At t (P + a.length) b := fun k hk => by
  have := h (a.length + k) (by rw [List.length_append]; omega)
  rw [List.getElem_append_right (by omega)] at this
  simp only [Nat.add_sub_cancel_left] at this
  rw [Nat.add_assoc]
  exact this
theorem At.self (l : List UInt8) : At ⟨l.toArray⟩ 0 l := fun k hk => by
  have h1 : k < (⟨l.toArray⟩ : ByteArray).size := by simpa [ByteArray.size] using hk
  rw [Nat.zero_add]
  refine ⟨h1, ?_⟩
  rw [← get_bt _ k h1]
  rfl
theorem At.size {t : ByteArray} {P : Nat} {l : List UInt8} (h : At t P l) (hl : l ≠ []) : P + l.length ≤ t.size := by
  have hp : 0 < l.length := List.length_pos_iff.2 hl
  have := (h (l.length - 1) (by omega)).1
  omega
theorem At.head {t : ByteArray} {P : Nat} {c : UInt8} {l : List UInt8} (h : At t P (c :: l)) : P < t.size ∧ bt t P = (c.toNat : Int) := h 0 (by simp)
theorem At.tail {t : ByteArray} {P : Nat} {c : UInt8} {l : List UInt8} (h : At t P (c :: l)) : At t (P + 1) l := At.right (a := [c]) h
theorem At.extract {t : ByteArray} {P : Nat} {l : List UInt8} (h : At t P l) : t.extract P (P + l.length) = ⟨l.toArray⟩ := by
  by_cases hl : l = []
  · subst hl
    apply ByteArray.ext
    simp
  · have hs := h.size hl
    have hz : (t.extract P (P + l.length)).size = l.length := by rw [size_sub t P (P + l.length) hs]; omega
    apply ByteArray.ext
    apply Array.ext
    · exact hz
    · intro k h1 h2
      have hk : k < l.length := by simpa using h2
      have h3 := (h k hk).2
      have h4 : bt (t.extract P (P + l.length)) k = bt t (P + k) := bt_sub t P (P + l.length) k (by omega) hs
      rw [h3, ← get_bt _ k (by rw [hz]; exact hk)] at h4
      have h5 : ((t.extract P (P + l.length))[k]'(by rw [hz]; exact hk)).toNat = l[k].toNat := by exact_mod_cast h4
      have h6 := UInt8.toNat_inj.1 h5
      exact h6
theorem form_same {s t : ByteArray} {p P : Nat} (hr : ¬ rn s p < 0) (h : ∀ k, k < wd s p → bt t (P + k) = bt s (p + k)) (hz : P + wd s p ≤ t.size) : formS t P = formS s p := by
  have e := formS_wd s p
  unfold rn at hr
  unfold formS at hr e ⊢
  unfold formI at hr e ⊢
  by_cases c1 : bt s p < 128
  · rw [if_pos c1] at e
    simp only at e
    have h0 := h 0 (by omega)
    rw [Nat.add_zero, Nat.add_zero] at h0
    rw [h0, if_pos c1, if_pos c1]
  rw [if_neg c1] at e hr
  by_cases c2 : 194 ≤ bt s p ∧ bt s p ≤ 223
  · rw [if_pos c2] at e hr
    by_cases d : 2 ≤ s.size - p ∧ bt s (p + 1) / 64 = 2
    · rw [if_pos d] at e
      simp only at e
      have h0 := h 0 (by omega)
      have h1 := h 1 (by omega)
      rw [Nat.add_zero, Nat.add_zero] at h0
      rw [h0, h1, if_neg c1, if_pos c2, if_neg c1, if_pos c2, if_pos d, if_pos ⟨by omega, d.2⟩]
    · rw [if_neg d] at hr
      exact absurd (show (-1 : Int) < 0 by decide) hr
  rw [if_neg c2] at e hr
  by_cases c3 : 224 ≤ bt s p ∧ bt s p ≤ 239
  · rw [if_pos c3] at e hr
    split at hr
    · rename_i d
      rw [if_pos d] at e
      simp only at e
      have h0 := h 0 (by omega)
      have h1 := h 1 (by omega)
      have h2 := h 2 (by omega)
      rw [Nat.add_zero, Nat.add_zero] at h0
      rw [h0, h1, h2, if_neg c1, if_neg c2, if_pos c3, if_neg c1, if_neg c2, if_pos c3, if_pos d, if_pos ⟨by omega, d.2⟩]
    · exact absurd (show (-1 : Int) < 0 by decide) hr
  rw [if_neg c3] at e hr
  by_cases c4 : 240 ≤ bt s p ∧ bt s p ≤ 244
  · rw [if_pos c4] at e hr
    split at hr
    · rename_i d
      rw [if_pos d] at e
      simp only at e
      have h0 := h 0 (by omega)
      have h1 := h 1 (by omega)
      have h2 := h 2 (by omega)
      have h3 := h 3 (by omega)
      rw [Nat.add_zero, Nat.add_zero] at h0
      rw [h0, h1, h2, h3, if_neg c1, if_neg c2, if_neg c3, if_pos c4, if_neg c1, if_neg c2, if_neg c3, if_pos c4, if_pos d, if_pos ⟨by omega, d.2⟩]
    · exact absurd (show (-1 : Int) < 0 by decide) hr
  · rw [if_neg c4] at hr
    exact absurd (show (-1 : Int) < 0 by decide) hr
theorem brk_char {t : ByteArray} {P : Nat} (h : P < t.size) (hr : ¬ rn t P < 0) : brk t P = brk t (P + wd t P) := by rw [brk_step t P h, if_neg hr]
theorem ascii_form {t : ByteArray} {P : Nat} (h : bt t P < 128) : formS t P = (bt t P, 1) := by
  unfold formS formI
  rw [if_pos h]
theorem ascii_rn {t : ByteArray} {P : Nat} (h : bt t P < 128) : rn t P = bt t P := by unfold rn; rw [ascii_form h]
theorem ascii_wd {t : ByteArray} {P : Nat} (h : bt t P < 128) : wd t P = 1 := by
  have := formS_wd t P
  rw [ascii_form h] at this
  simp only at this
  omega
theorem brk_ascii : ∀ {l : List UInt8} {t : ByteArray} {P : Nat}, At t P l → (∀ c ∈ l, c.toNat < 128) → brk t P = brk t (P + l.length)
  | [], t, P, _, _ => rfl
  | c :: l, t, P, h, hc => by
    obtain ⟨h1, h2⟩ := h.head
    have h3 : bt t P < 128 := by have := hc c (by simp); omega
    have h4 := bt_nonneg t P
    rw [brk_char h1 (by rw [ascii_rn h3]; omega), ascii_wd h3, brk_ascii h.tail (fun d hd => hc d (by simp [hd])), List.length_cons]
    congr 1
    omega
/-- A piece: e is written, d is read. -/
structure Pc (e d : List UInt8) : Prop where
  ne : e ≠ []
  read : ∀ t P, At t P e → pieceX t P = .ok (P + e.length) ⟨d.toArray⟩
  whole : ∀ t P, At t P e → brk t P = brk t (P + e.length)
/-- The bytes of a text from a place on. -/
def sub (s : ByteArray) (p n : Nat) : List UInt8 := (s.data.toList.drop p).take n
theorem sub_len {s : ByteArray} {p n : Nat} (h : p + n ≤ s.size) : (sub s p n).length = n := by
  unfold sub
  rw [List.length_take, List.length_drop]
  have : s.data.toList.length = s.size := rfl
  omega
theorem sub_at {s : ByteArray} {p n k : Nat} (h : p + n ≤ s.size) (hk : k < n) (hl : k < (sub s p n).length) : ((sub s p n)[k].toNat : Int) = bt s (p + k) := by
  rw [← get_bt s (p + k) (by omega)]
  simp only [sub, List.getElem_take, List.getElem_drop]
  rfl
theorem raw_piece {s : ByteArray} {p : Nat} (hp : p < s.size) (hc : rChar (rn s p) = true) (h38 : bt s p ≠ 38) : Pc (sub s p (wd s p)) (sub s p (wd s p)) := by
  have hin := wd_in s p hp
  have hlen := sub_len hin
  have hpos := wd_pos s p hp
  have hr0 : ¬ rn s p < 0 := by
    unfold rChar at hc
    simp only [decide_eq_true_eq] at hc
    omega
  have key : ∀ t P, At t P (sub s p (wd s p)) → P < t.size ∧ formS t P = formS s p ∧ wd t P = wd s p ∧ bt t P = bt s p := fun t P h => by
    have hz := h.size (by intro e; rw [e] at hlen; simp at hlen; omega)
    rw [hlen] at hz
    have hb : ∀ k, k < wd s p → bt t (P + k) = bt s (p + k) := fun k hk => by
      rw [(h k (by rw [hlen]; exact hk)).2, sub_at hin hk]
    have hf := form_same hr0 hb hz
    have h0 := hb 0 (by omega)
    rw [Nat.add_zero, Nat.add_zero] at h0
    have hw := formS_wd t P
    rw [hf, formS_wd s p] at hw
    exact ⟨by omega, hf, by omega, h0⟩
  refine ⟨by intro e; rw [e] at hlen; simp at hlen; omega, fun t P h => ?_, fun t P h => ?_⟩
  · obtain ⟨h1, h2, h3, h4⟩ := key t P h
    unfold pieceX
    rw [if_neg (by rw [h4]; exact h38)]
    have hrt : rn t P = rn s p := by unfold rn; rw [h2]
    rw [hrt, if_pos hc, h3]
    have he := h.extract
    rw [hlen] at he ⊢
    rw [he]
  · obtain ⟨h1, h2, h3, h4⟩ := key t P h
    have hrt : rn t P = rn s p := by unfold rn; rw [h2]
    rw [brk_char h1 (by rw [hrt]; exact hr0), h3, hlen]
/-- The first semicolon. -/
theorem smF_at : ∀ {l : List UInt8} {t : ByteArray} {P f : Nat}, At t P (l ++ [59]) → (∀ c ∈ l, c ≠ 59) → l.length < f → smF t f P = some (P + l.length)
  | [], t, P, f, h, _, hf => by
    obtain ⟨f, rfl⟩ : ∃ k, f = k + 1 := ⟨f - 1, by simp at hf; omega⟩
    unfold smF
    rw [if_pos (by simpa using h.head.2)]
    rfl
  | c :: l, t, P, f, h, hc, hf => by
    obtain ⟨f, rfl⟩ : ∃ k, f = k + 1 := ⟨f - 1, by simp at hf; omega⟩
    have h1 : At t P (c :: (l ++ [59])) := h
    unfold smF
    rw [if_neg (by
      rw [h1.head.2]
      intro e
      exact hc c (by simp) (UInt8.toNat_inj.1 (by simpa using (by omega : c.toNat = 59)))), smF_at h1.tail (fun d hd => hc d (by simp [hd])) (by simp at hf; omega), List.length_cons]
    congr 1
    omega
theorem At.rest {t : ByteArray} {P q : Nat} {l : List UInt8} (h : At t (P + q) l) (hP : P ≤ t.size) : At (t.extract P t.size) q l := fun k hk => by
  obtain ⟨h1, h2⟩ := h k hk
  refine ⟨by rw [rest_size t P hP]; omega, ?_⟩
  rw [bt_extract, ← Nat.add_assoc]
  exact h2
theorem ref_at {t : ByteArray} {P : Nat} {name : List UInt8} {r : Int} (h : At t P (38 :: (name ++ [59]))) (hn : ∀ c ∈ name, c ≠ 59) (h5 : fiveX ⟨name.toArray⟩ = some r) : refX t P = some (r, name.length + 2) := by
  have hs := h.size (by simp)
  have hP : P ≤ t.size := by omega
  have h1 : At (t.extract P t.size) 1 (name ++ [59]) := h.tail.rest hP
  have hsm : semi (t.extract P t.size) 1 = some (1 + name.length) := by
    unfold semi
    exact smF_at h1 hn (by rw [rest_size t P hP]; simp at hs; omega)
  have hex : (t.extract P t.size).extract 1 (1 + name.length) = ⟨name.toArray⟩ := h1.left.extract
  unfold refX refT
  rw [hsm]
  simp only
  rw [hex, h5]
  simp only
  congr 2
  omega
theorem esc_piece {c : UInt8} (name : List UInt8) (he : escC c = 38 :: (name ++ [59])) (hn : ∀ d ∈ name, d ≠ 59) (ha : ∀ d ∈ name, d.toNat < 128) (h5 : fiveX ⟨name.toArray⟩ = some (c.toNat : Int)) (hb : (Lib.encodeRune (c.toNat : Int)) = [c]) : Pc (escC c) [c] := by
  rw [he]
  refine ⟨by simp, fun t P h => ?_, fun t P h => brk_ascii h (fun d hd => ?_)⟩
  · unfold pieceX
    rw [if_pos (by simpa using h.head.2), ref_at h hn h5]
    simp only [List.length_cons, List.length_append, List.length_nil]
    unfold encB
    rw [hb]
  · simp only [List.mem_cons, List.mem_append, List.not_mem_nil, or_false] at hd
    rcases hd with rfl | hd | rfl
    · decide
    · exact ha d hd
    · decide
theorem pc_amp : Pc (escC 38) [38] := esc_piece [97, 109, 112] rfl (by decide) (by decide) (by kernel_rfl) (by kernel_rfl)
theorem pc_lt : Pc (escC 60) [60] := esc_piece [108, 116] rfl (by decide) (by decide) (by kernel_rfl) (by kernel_rfl)
theorem pc_gt : Pc (escC 62) [62] := esc_piece [103, 116] rfl (by decide) (by decide) (by kernel_rfl) (by kernel_rfl)
theorem pc_quot : Pc (escC 34) [34] := esc_piece [113, 117, 111, 116] rfl (by decide) (by decide) (by kernel_rfl) (by kernel_rfl)
end

section
open Go.RowKit Go.PlainAid

/-- No byte that ends a text or a value. -/
def Tame (e : List UInt8) : Prop := ∀ c ∈ e, c ≠ 60 ∧ c ≠ 62 ∧ c ≠ 34
theorem multi_high {s : ByteArray} {p : Nat} (hr : ¬ rn s p < 0) (h : ¬ bt s p < 128) : ∀ k, k < wd s p → 128 ≤ bt s (p + k) := by
  have e := formS_wd s p
  unfold rn at hr
  unfold formS at hr e
  unfold formI at hr e
  rw [if_neg h] at hr e
  intro k hk
  have h0 : 128 ≤ bt s (p + 0) := by rw [Nat.add_zero]; omega
  split at hr
  · rename_i c2
    rw [if_pos c2] at e
    split at hr
    · rename_i d
      rw [if_pos d] at e
      simp only at e
      have : k = 0 ∨ k = 1 := by omega
      rcases this with rfl | rfl
      · exact h0
      · omega
    · exact absurd (show (-1 : Int) < 0 by decide) hr
  rename_i c2
  rw [if_neg c2] at e
  split at hr
  · rename_i c3
    rw [if_pos c3] at e
    split at hr
    · rename_i d
      rw [if_pos d] at e
      simp only at e
      have : k = 0 ∨ k = 1 ∨ k = 2 := by omega
      rcases this with rfl | rfl | rfl
      · exact h0
      · omega
      · omega
    · exact absurd (show (-1 : Int) < 0 by decide) hr
  rename_i c3
  rw [if_neg c3] at e
  split at hr
  · rename_i c4
    rw [if_pos c4] at e
    split at hr
    · rename_i d
      rw [if_pos d] at e
      simp only at e
      have : k = 0 ∨ k = 1 ∨ k = 2 ∨ k = 3 := by omega
      rcases this with rfl | rfl | rfl | rfl
      · exact h0
      · omega
      · omega
      · omega
    · exact absurd (show (-1 : Int) < 0 by decide) hr
  · exact absurd (show (-1 : Int) < 0 by decide) hr
theorem escC_other {c : UInt8} (h1 : c ≠ 38) (h2 : c ≠ 60) (h3 : c ≠ 62) (h4 : c ≠ 34) : escC c = [c] := by
  unfold escC
  rw [if_neg h1, if_neg h2, if_neg h3, if_neg h4]
theorem flat_other : ∀ {l : List UInt8}, (∀ c ∈ l, c ≠ 38 ∧ c ≠ 60 ∧ c ≠ 62 ∧ c ≠ 34) → l.flatMap escC = l
  | [], _ => rfl
  | c :: l, h => by
    obtain ⟨h1, h2, h3, h4⟩ := h c (by simp)
    rw [List.flatMap_cons, escC_other h1 h2 h3 h4, flat_other (fun d hd => h d (by simp [hd]))]
    rfl
theorem byte_ne {c : UInt8} {n : Nat} (h : (c.toNat : Int) ≠ n) (hn : n < 256) : c ≠ UInt8.ofNat n := by
  intro e
  subst e
  apply h
  simp
  omega
theorem sub_split {s : ByteArray} {p n : Nat} : s.data.toList.drop p = sub s p n ++ s.data.toList.drop (p + n) := by
  unfold sub
  rw [← List.drop_drop, List.take_append_drop]
theorem sub_mem {s : ByteArray} {p n : Nat} {c : UInt8} (h : p + n ≤ s.size) (hc : c ∈ sub s p n) : ∃ k, k < n ∧ (c.toNat : Int) = bt s (p + k) := by
  obtain ⟨k, hk, rfl⟩ := List.getElem_of_mem hc
  have hl := sub_len h
  exact ⟨k, by omega, sub_at h (by omega) hk⟩
/-- A taken text falls into pieces. -/
theorem pieces_of {s : ByteArray} : ∀ (f p : Nat), takenF s f p = true → s.size < p + f → p ≤ s.size → ∃ L : List (List UInt8 × List UInt8), (L.map (·.2)).flatten = s.data.toList.drop p ∧ (L.map (·.1)).flatten = (s.data.toList.drop p).flatMap escC ∧ ∀ x ∈ L, Pc x.1 x.2 ∧ Tame x.1
  | 0, p, _, h1, h2 => by omega
  | f + 1, p, h, h1, h2 => by
    by_cases hp : p < s.size
    · have hc : rChar (rn s p) = true := by
        unfold takenF at h
        rw [if_neg (by omega)] at h
        split at h
        · assumption
        · cases h
      have h' := h
      rw [takenF_go hp hc] at h'
      have hin := wd_in s p hp
      have hwp := wd_pos s p hp
      obtain ⟨L, hL1, hL2, hL3⟩ := pieces_of f (p + wd s p) h' (by omega) hin
      have hr0 : ¬ rn s p < 0 := by
        unfold rChar at hc
        simp only [decide_eq_true_eq] at hc
        omega
      have hspl := sub_split (s := s) (p := p) (n := wd s p)
      by_cases hsp : bt s p = 38 ∨ bt s p = 60 ∨ bt s p = 62 ∨ bt s p = 34
      · have hw1 : wd s p = 1 := ascii_wd (by omega)
        have hl1 := sub_len hin
        rw [hw1] at hspl hl1 hL1 hL2 hin
        obtain ⟨c, hcs⟩ := List.length_eq_one_iff.1 hl1
        have hcb : (c.toNat : Int) = bt s p := by
          have := sub_at hin (k := 0) (by omega) (by rw [hl1]; omega)
          simp only [hcs, List.getElem_cons_zero, Nat.add_zero] at this
          exact this
        have hcc : (c = 38 ∨ c = 60 ∨ c = 62 ∨ c = 34) := by
          rcases hsp with e | e | e | e
          · exact .inl (UInt8.toNat_inj.1 (by show c.toNat = 38; omega))
          · exact .inr (.inl (UInt8.toNat_inj.1 (by show c.toNat = 60; omega)))
          · exact .inr (.inr (.inl (UInt8.toNat_inj.1 (by show c.toNat = 62; omega))))
          · exact .inr (.inr (.inr (UInt8.toNat_inj.1 (by show c.toNat = 34; omega))))
        rw [hcs] at hspl
        refine ⟨(escC c, [c]) :: L, ?_, ?_, fun x hx => ?_⟩
        · rw [List.map_cons, List.flatten_cons, hL1, hspl]
        · rw [List.map_cons, List.flatten_cons, hL2, hspl, List.flatMap_append]
          simp
        · rcases List.mem_cons.1 hx with rfl | hx
          · rcases hcc with rfl | rfl | rfl | rfl
            · exact ⟨pc_amp, by unfold Tame; decide⟩
            · exact ⟨pc_lt, by unfold Tame; decide⟩
            · exact ⟨pc_gt, by unfold Tame; decide⟩
            · exact ⟨pc_quot, by unfold Tame; decide⟩
          · exact hL3 x hx
      · have hall : ∀ c ∈ sub s p (wd s p), c ≠ 38 ∧ c ≠ 60 ∧ c ≠ 62 ∧ c ≠ 34 := fun c hcm => by
          obtain ⟨k, hk, hkb⟩ := sub_mem hin hcm
          have hk2 : (c.toNat : Int) ≠ 38 ∧ (c.toNat : Int) ≠ 60 ∧ (c.toNat : Int) ≠ 62 ∧ (c.toNat : Int) ≠ 34 := by
            by_cases ha : bt s p < 128
            · have hw1 := ascii_wd ha
              have : k = 0 := by omega
              subst this
              rw [Nat.add_zero] at hkb
              omega
            · have := multi_high hr0 ha k hk
              omega
          refine ⟨fun e => ?_, fun e => ?_, fun e => ?_, fun e => ?_⟩ <;> (subst e; simp at hk2)
        refine ⟨(sub s p (wd s p), sub s p (wd s p)) :: L, ?_, ?_, fun x hx => ?_⟩
        · rw [List.map_cons, List.flatten_cons, hL1, ← hspl]
        · rw [List.map_cons, List.flatten_cons, hL2, hspl, List.flatMap_append, flat_other hall]
        · rcases List.mem_cons.1 hx with rfl | hx
          · exact ⟨raw_piece hp hc (fun e => hsp (.inl e)), fun c hcm => ⟨(hall c hcm).2.1, (hall c hcm).2.2.1, (hall c hcm).2.2.2⟩⟩
          · exact hL3 x hx
    · refine ⟨[], ?_, ?_, fun x hx => absurd hx (by simp)⟩
      · have : s.data.toList.drop p = [] := List.drop_eq_nil_of_le (show s.size ≤ p by omega)
        rw [this]
        rfl
      · have : s.data.toList.drop p = [] := List.drop_eq_nil_of_le (show s.size ≤ p by omega)
        rw [this]
        rfl
theorem tame_head {e : List UInt8} (h : Tame e) (hn : e ≠ []) {t : ByteArray} {P : Nat} (hA : At t P e) : P < t.size ∧ bt t P ≠ 60 ∧ bt t P ≠ 62 ∧ bt t P ≠ 34 := by
  cases e with
  | nil => exact absurd rfl hn
  | cons c l =>
    obtain ⟨h1, h2⟩ := hA.head
    obtain ⟨h3, h4, h5⟩ := h c (by simp)
    refine ⟨h1, fun e => h3 (UInt8.toNat_inj.1 ?_), fun e => h4 (UInt8.toNat_inj.1 ?_), fun e => h5 (UInt8.toNat_inj.1 ?_)⟩
    · show c.toNat = 60; omega
    · show c.toNat = 62; omega
    · show c.toNat = 34; omega
abbrev Encs (L : List (List UInt8 × List UInt8)) : List UInt8 := (L.map (·.1)).flatten
abbrev Decs (L : List (List UInt8 × List UInt8)) : List UInt8 := (L.map (·.2)).flatten
theorem whole_run {t : ByteArray} : ∀ {L : List (List UInt8 × List UInt8)} {P : Nat}, (∀ x ∈ L, Pc x.1 x.2 ∧ Tame x.1) → At t P (Encs L) → brk t P = brk t (P + (Encs L).length)
  | [], P, _, _ => rfl
  | x :: L, P, h, hA => by
    have hA' : At t P (x.1 ++ Encs L) := hA
    rw [(h x (by simp)).1.whole t P hA'.left, whole_run (fun y hy => h y (by simp [hy])) hA'.right]
    show _ = brk t (P + (x.1 ++ Encs L).length)
    rw [List.length_append, Nat.add_assoc]
theorem encs_ge : ∀ {L : List (List UInt8 × List UInt8)}, (∀ x ∈ L, Pc x.1 x.2 ∧ Tame x.1) → L.length ≤ (Encs L).length
  | [], _ => Nat.zero_le _
  | x :: L, h => by
    have h1 := encs_ge (L := L) (fun y hy => h y (by simp [hy]))
    have h2 := List.length_pos_iff.2 (h x (by simp)).1.ne
    show L.length + 1 ≤ (x.1 ++ Encs L).length
    rw [List.length_append]
    omega
end

section
open Go.RowKit Go.PlainAid

theorem blk_same {s : ByteArray} {p : Nat} (h : bBlank (bt s p) = false) : blk s p = p := by
  unfold blk
  cases hf : s.size - p with
  | zero => rfl
  | succ f =>
    unfold blkF
    rw [if_neg (by rw [h]; simp)]
theorem blk_more {s : ByteArray} {p : Nat} (h : bBlank (bt s p) = true) (hp : p < s.size) : blk s p = blk s (p + 1) := by
  unfold blk
  rw [show s.size - p = (s.size - (p + 1)) + 1 by omega]
  conv => lhs; unfold blkF
  rw [if_pos h]
theorem nm_run : ∀ {nm : List UInt8} {t : ByteArray} {P : Nat}, At t P nm → (∀ c ∈ nm, bByte (c.toNat : Int) = true) → bByte (bt t (P + nm.length)) = false → nmE t P = P + nm.length
  | [], t, P, _, _, h => by
    unfold nmE
    exact nmF_stop h
  | c :: nm, t, P, hA, hc, h => by
    obtain ⟨h1, h2⟩ := hA.head
    have hb : bByte (bt t P) = true := by rw [h2]; exact hc c (by simp)
    have e : P + (c :: nm).length = P + 1 + nm.length := by rw [List.length_cons]; omega
    rw [e] at h ⊢
    have := nm_run hA.tail (fun d hd => hc d (by simp [hd])) h
    unfold nmE at this ⊢
    rw [nmF_step hb, this]
/-- A name that stands there. -/
theorem name_at {nm : List UInt8} {t : ByteArray} {P : Nat} {c : UInt8} {l : List UInt8} (hA : At t P nm) (hn : nm = c :: l) (hs : bStart (c.toNat : Int) = true) (hc : ∀ d ∈ nm, bByte (d.toNat : Int) = true) (hl : nm.length ≤ 64) (hend : bByte (bt t (P + nm.length)) = false) : nameX t P = .ok (P + nm.length) ⟨nm.toArray⟩ := by
  have hr := nm_run hA hc hend
  have hx := hA.extract
  subst hn
  unfold nameX
  rw [if_pos (by rw [hA.head.2]; exact hs), hr, if_neg (by omega), hx]
theorem val_run {t : ByteArray} : ∀ {L : List (List UInt8 × List UInt8)} {P g : Nat} {acc : List UInt8}, (∀ x ∈ L, Pc x.1 x.2 ∧ Tame x.1) → At t P (Encs L) → valF t 34 (g + L.length) P ⟨acc.toArray⟩ = valF t 34 g (P + (Encs L).length) ⟨(acc ++ Decs L).toArray⟩
  | [], P, g, acc, _, _ => by
    show valF t 34 (g + 0) P _ = valF t 34 g (P + 0) ⟨(acc ++ []).toArray⟩
    rw [List.append_nil]
    rfl
  | x :: L, P, g, acc, h, hA => by
    have hA' : At t P (x.1 ++ Encs L) := hA
    obtain ⟨hp, ht⟩ := h x (by simp)
    obtain ⟨h1, h2, _, h4⟩ := tame_head ht hp.ne hA'.left
    rw [List.length_cons, ← Nat.add_assoc, valF_go h4 (by omega), hp.read t P hA'.left]
    simp only
    rw [toA_append]
    rw [show ((⟨x.2.toArray⟩ : ByteArray).data.toList) = x.2 by simp]
    rw [val_run (fun y hy => h y (by simp [hy])) hA'.right]
    show _ = valF t 34 g (P + (x.1 ++ Encs L).length) ⟨(acc ++ (x.2 ++ Decs L)).toArray⟩
    rw [List.length_append, Nat.add_assoc, List.append_assoc]
/-- No '>' in a text: no "]]>" either. -/
theorem no_close {t : ByteArray} {P : Nat} (h1 : bt t (P + 2) ≠ 62) : wdAt t P [93, 93, 62] = false := by
  simp only [wdAt, Bool.and_true]
  have : (bt t (P + 1 + 1) == 62) = false := by simpa using h1
  rw [this]
  simp
theorem not_lt_cmt {t : ByteArray} {P : Nat} (h : bt t P ≠ 60) : isCmt t P = false ∧ wdAt t P [60, 47] = false := by
  have : (bt t P == 60) = false := by simpa using h
  unfold isCmt
  simp only [wdAt, this, Bool.false_and, and_self]
theorem hold_run {t : ByteArray} {out : List Tk} {pile : List ByteArray} (hpi : pile ≠ []) : ∀ {L : List (List UInt8 × List UInt8)} {P g : Nat} {acc : List UInt8} {fr : Option Nat}, (∀ x ∈ L, Pc x.1 x.2 ∧ Tame x.1) → At t P (Encs L ++ [60]) → (∀ k, P ≤ k → k < P + (Encs L).length + 1 → bt t k ≠ 62) → bt t (P + (Encs L).length + 1) ≠ 62 → L ≠ [] →
    holdF t (g + L.length) P out pile ⟨acc.toArray⟩ fr = holdF t g (P + (Encs L).length) out pile ⟨(acc ++ Decs L).toArray⟩ (some (fr.getD P))
  | [], _, _, _, _, _, _, _, _, hL => absurd rfl hL
  | x :: L, P, g, acc, fr, h, hA, hno, hn2, _ => by
    have hA' : At t P (x.1 ++ (Encs L ++ [60])) := by rw [← List.append_assoc]; exact hA
    obtain ⟨hp, ht⟩ := h x (by simp)
    obtain ⟨h1, h2, h3, h4⟩ := tame_head ht hp.ne hA'.left
    have hle : (Encs (x :: L)).length = x.1.length + (Encs L).length := by show (x.1 ++ Encs L).length = _; rw [List.length_append]
    have hpos := List.length_pos_iff.2 hp.ne
    have hc := not_lt_cmt h2
    have hno2 : bt t (P + 2) ≠ 62 := by
      by_cases hk : P + 2 < P + (Encs (x :: L)).length + 1
      · exact hno _ (by omega) hk
      · have : P + 2 = P + (Encs (x :: L)).length + 1 := by omega
        rw [this]
        exact hn2
    have hst : holdF t (g + (x :: L).length) P out pile ⟨acc.toArray⟩ fr = holdF t (g + L.length) (P + x.1.length) out pile ⟨(acc ++ x.2).toArray⟩ (some (fr.getD P)) := by
      rw [List.length_cons, ← Nat.add_assoc, holdF_piece hpi hc.1 hc.2 h2 (by
        rintro (e | e)
        · omega
        · rw [no_close hno2] at e; cases e), hp.read t P hA'.left]
      simp only
      rw [toA_append]
    rw [hst]
    by_cases hL : L = []
    · subst hL
      rw [hle]
      show holdF t (g + 0) (P + x.1.length) out pile ⟨(acc ++ x.2).toArray⟩ _ = holdF t g (P + (x.1.length + 0)) out pile ⟨(acc ++ (x.2 ++ [])).toArray⟩ _
      rw [List.append_nil]
      rfl
    · rw [hold_run hpi (fun y hy => h y (by simp [hy])) hA'.right (fun k hk1 hk2 => hno k (by omega) (by omega)) (by rw [show P + x.1.length + (Encs L).length + 1 = P + (Encs (x :: L)).length + 1 by omega]; exact hn2) hL, hle]
      show holdF t g _ out pile ⟨(acc ++ x.2 ++ Decs L).toArray⟩ _ = holdF t g _ out pile ⟨(acc ++ (x.2 ++ Decs L)).toArray⟩ _
      rw [List.append_assoc, Nat.add_assoc]
      rfl
end

section
open Go.RowKit Go.PlainAid

theorem wd_second {s : ByteArray} {p : Nat} {a b : Int} {l : List Int} (h : bt s (p + 1) ≠ b) : wdAt s p (a :: b :: l) = false := by
  have : (bt s (p + 1) == b) = false := by simpa using h
  simp only [wdAt, this, Bool.false_and, Bool.and_false]
/-- The file that XmlThere asks about. -/
def thereF (s : ByteArray) : ByteArray := (((⟨#[60, 97, 32, 118, 61, 34]⟩ ++ escB s) ++ ⟨#[34, 62]⟩) ++ escB s) ++ ⟨#[60, 47, 97, 62]⟩
theorem there_list (s : ByteArray) : thereF s = ⟨([60, 97, 32, 118, 61, 34] ++ (s.data.toList.flatMap escC ++ ([34, 62] ++ (s.data.toList.flatMap escC ++ [60, 47, 97, 62])))).toArray⟩ := by
  apply ByteArray.ext
  apply Array.ext'
  simp [thereF, ByteArray.data_append, escB, List.append_assoc]
theorem misc_none {s : ByteArray} {p : Nat} (h : bBlank (bt s p) = false) (h2 : isCmt s p = false) : miscX s p = .ok p () := by
  unfold miscX
  obtain ⟨f, hf⟩ | hf : (∃ f, s.size + 1 - p = f + 1) ∨ s.size + 1 - p = 0 := by
    by_cases hh : s.size + 1 - p = 0
    · exact .inr hh
    · exact .inl ⟨s.size + 1 - p - 1, by omega⟩
  · rw [hf, miscF_stop (by rw [blk_same h]; omega) h2]
  · rw [hf]
    rfl
theorem there_tokens {s : ByteArray} (h : takenX s = true) (hs0 : s.size ≠ 0) (hz : s.size ≤ 4096) : ∃ z p1 p2, tokensX (thereF s) = .ok z [⟨1, ⟨#[97]⟩, [(⟨#[118]⟩, s)], ⟨#[]⟩, 0⟩, ⟨3, ⟨#[]⟩, [], s, p1⟩, ⟨2, ⟨#[97]⟩, [], ⟨#[]⟩, p2⟩] := by
  obtain ⟨L, h1, h2, h3⟩ := pieces_of (s.size + 1) 0 h (by omega) (Nat.zero_le _)
  rw [List.drop_zero] at h1 h2
  have hD : Decs L = s.data.toList := h1
  have hE : Encs L = s.data.toList.flatMap escC := h2
  have hlen : (Encs L).length = escN s.data.toList := by rw [hE]; rfl
  have hge := escN_ge s.data.toList
  have hll : s.data.toList.length = s.size := rfl
  rw [hll] at hge
  have hL0 : L ≠ [] := by
    intro e
    subst e
    have : s.data.toList = [] := hD.symm
    rw [this] at hll
    exact hs0 hll.symm
  have hLE := encs_ge h3
  obtain ⟨n, hn⟩ : ∃ n, (Encs L).length = n := ⟨_, rfl⟩
  rw [hn] at hLE hlen
  have hLp : 1 ≤ L.length := List.length_pos_iff.2 hL0
  obtain ⟨F, hF⟩ : ∃ F, thereF s = F := ⟨_, rfl⟩
  rw [hF]
  have hFl := there_list s
  rw [hF, ← hE] at hFl
  have hA : At F 0 ([60, 97, 32, 118, 61, 34] ++ (Encs L ++ ([34, 62] ++ (Encs L ++ [60, 47, 97, 62])))) := by rw [hFl]; exact At.self _
  have hsz : F.size = 12 + 2 * n := by
    rw [hFl]
    show ([60, 97, 32, 118, 61, 34] ++ (Encs L ++ ([34, 62] ++ (Encs L ++ [60, 47, 97, 62]))) : List UInt8).length = _
    simp only [List.length_append, List.length_cons, List.length_nil, hn]
    omega
  have a0 := hA.left
  have a1 : At F 6 (Encs L ++ ([34, 62] ++ (Encs L ++ [60, 47, 97, 62]))) := by have := hA.right; simpa using this
  have a2 : At F (6 + n) ([34, 62] ++ (Encs L ++ [60, 47, 97, 62])) := by have := a1.right; rw [hn] at this; exact this
  have a3 : At F (8 + n) (Encs L ++ [60, 47, 97, 62]) := by have := a2.right; rw [show 6 + n + ([34, 62] : List UInt8).length = 8 + n by simp; omega] at this; exact this
  have a4 : At F (8 + 2 * n) [60, 47, 97, 62] := by have := a3.right; rw [hn, show 8 + n + n = 8 + 2 * n by omega] at this; exact this
  have b0 : bt F 0 = 60 := (a0 0 (by simp)).2
  have b1 : bt F 1 = 97 := (a0 1 (by simp)).2
  have b2 : bt F 2 = 32 := (a0 2 (by simp)).2
  have b3 : bt F 3 = 118 := (a0 3 (by simp)).2
  have b4 : bt F 4 = 61 := (a0 4 (by simp)).2
  have b5 : bt F 5 = 34 := (a0 5 (by simp)).2
  have c0 : bt F (6 + n) = 34 := (a2 0 (by simp)).2
  have c1 : bt F (7 + n) = 62 := by have := (a2 1 (by simp)).2; rw [show 6 + n + 1 = 7 + n by omega] at this; exact this
  have d0 : bt F (8 + 2 * n) = 60 := (a4 0 (by simp)).2
  have d1 : bt F (8 + 2 * n + 1) = 47 := (a4 1 (by simp)).2
  have d2 : bt F (8 + 2 * n + 2) = 97 := (a4 2 (by simp)).2
  have d3 : bt F (8 + 2 * n + 3) = 62 := (a4 3 (by simp)).2
  -- whole runes
  have hbrk : brk F 0 = -1 := by
    have e1 := brk_ascii a0 (by decide)
    have e2 := whole_run h3 a1.left
    have e3 := brk_ascii a2.left (by decide)
    have e4 := whole_run h3 a3.left
    have e5 := brk_ascii a4 (by decide)
    rw [hn] at e2 e4
    rw [e1, show 0 + ([60, 97, 32, 118, 61, 34] : List UInt8).length = 6 by simp, e2, e3, show 6 + n + ([34, 62] : List UInt8).length = 8 + n by simp; omega, e4, show 8 + n + n = 8 + 2 * n by omega, e5, brk_end F _ (by rw [hsz]; simp; omega)]
  -- the value
  have hval : valX F 5 = .ok (7 + n) s := by
    unfold valX
    rw [if_pos (by left; exact b5), b5]
    have hv := val_run (t := F) (g := F.size + 1 - 5 - L.length) (acc := []) h3 a1.left
    rw [show F.size + 1 - 5 - L.length + L.length = F.size + 1 - 5 by omega, hn, List.nil_append, hD] at hv
    obtain ⟨g, hg⟩ : ∃ g, F.size + 1 - 5 - L.length = g + 1 := ⟨F.size - 5 - L.length, by omega⟩
    rw [hg, valF_end c0, mk_list] at hv
    have hv2 : valF F 34 (F.size + 1 - 5) (5 + 1) ⟨#[]⟩ = .ok (6 + n + 1) s := hv
    rw [hv2]
    simp only
    rw [if_neg (by omega)]
    congr 1
    omega
  have hattr : attrX F 3 [] = .ok (7 + n) (⟨#[118]⟩, s) := by
    have hnm : nameX F 3 = .ok 4 ⟨#[118]⟩ := name_at (nm := [118]) (t := F) (P := 3) (c := 118) (l := []) (fun k hk => by
      obtain rfl : k = 0 := by simp at hk; omega
      exact ⟨by omega, b3⟩) rfl (by decide) (by decide) (by decide) (by show bByte (bt F 4) = false; rw [b4]; decide)
    unfold attrX
    rw [hnm]
    simp only
    rw [if_neg (by simp), if_neg (by simp), if_pos b4, hval]
  have hbeg : begX F 0 0 = .ok (8 + n) (⟨#[97]⟩, false, [(⟨#[118]⟩, s)]) := by
    have hnm : nameX F 1 = .ok 2 ⟨#[97]⟩ := name_at (nm := [97]) (t := F) (P := 1) (c := 97) (l := []) (fun k hk => by
      obtain rfl : k = 0 := by simp at hk; omega
      exact ⟨by omega, b1⟩) rfl (by decide) (by decide) (by decide) (by show bByte (bt F 2) = false; rw [b2]; decide)
    have hk2 : blk F 2 = 3 := by rw [blk_more (by rw [b2]; decide) (by omega), blk_same (by rw [b3]; decide)]
    have hk7 : blk F (7 + n) = 7 + n := blk_same (by rw [c1]; decide)
    rw [begX_go hnm (by decide), show F.size + 1 - 2 = (F.size - 2) + 1 by omega, begF_attr hk2 (by rw [b3]; decide) (by rw [b3]; decide) (by decide), hattr]
    simp only
    rw [show F.size - 2 = (F.size - 3) + 1 by omega, begF_end hk7 c1]
    show Xr.ok (7 + n + 1) _ = _
    rw [show 7 + n + 1 = 8 + n by omega]
    rfl
  have hend : endX F (8 + 2 * n) ⟨#[97]⟩ = .ok (12 + 2 * n) ⟨#[97]⟩ := by
    have hnm : nameX F (8 + 2 * n + 2) = .ok (8 + 2 * n + 3) ⟨#[97]⟩ := name_at (nm := [97]) (t := F) (P := 8 + 2 * n + 2) (c := 97) (l := []) (fun k hk => by
      obtain rfl : k = 0 := by simp at hk; omega
      exact ⟨by omega, d2⟩) rfl (by decide) (by decide) (by decide) (by show bByte (bt F (8 + 2 * n + 3)) = false; rw [d3]; decide)
    rw [endX_go hnm rfl (blk_same (by rw [d3]; decide)), if_pos d3, show 8 + 2 * n + 3 + 1 = 12 + 2 * n by omega]
  have hhold : holdF F (F.size + 1 - (8 + n)) (8 + n) [⟨1, ⟨#[97]⟩, [(⟨#[118]⟩, s)], ⟨#[]⟩, 0⟩] [⟨#[97]⟩] ⟨#[]⟩ none = .ok (12 + 2 * n) [⟨1, ⟨#[97]⟩, [(⟨#[118]⟩, s)], ⟨#[]⟩, 0⟩, ⟨3, ⟨#[]⟩, [], s, 8 + n⟩, ⟨2, ⟨#[97]⟩, [], ⟨#[]⟩, 8 + 2 * n⟩] := by
    have hr := hold_run (t := F) (out := [⟨1, ⟨#[97]⟩, [(⟨#[118]⟩, s)], ⟨#[]⟩, 0⟩]) (pile := [⟨#[97]⟩]) (by simp) (P := 8 + n) (g := F.size + 1 - (8 + n) - L.length) (acc := []) (fr := none) h3 (by
      have : At F (8 + n) ((Encs L ++ [60]) ++ [47, 97, 62]) := by rw [List.append_assoc]; exact a3
      exact this.left) (fun k hk1 hk2 => by
        rw [hn] at hk2
        by_cases hk3 : k = 8 + 2 * n
        · rw [hk3, d0]; decide
        · have hk4 : k - (8 + n) < (Encs L).length := by rw [hn]; omega
          have hb := (a3.left (k - (8 + n)) hk4).2
          rw [show 8 + n + (k - (8 + n)) = k by omega] at hb
          intro e
          have hm : (Encs L)[k - (8 + n)] ∈ Encs L := List.getElem_mem _
          obtain ⟨x, hx, hxe⟩ := List.mem_flatten.1 hm
          obtain ⟨y, hy, rfl⟩ := List.mem_map.1 hx
          have := ((h3 y hy).2 _ hxe).2.1
          apply this
          apply UInt8.toNat_inj.1
          show _ = 62
          omega) (by rw [hn, show 8 + n + n + 1 = 8 + 2 * n + 1 by omega, d1]; decide) hL0
    rw [show F.size + 1 - (8 + n) - L.length + L.length = F.size + 1 - (8 + n) by omega, hn, List.nil_append, hD, mk_list, show 8 + n + n = 8 + 2 * n by omega] at hr
    have hr2 : holdF F (F.size + 1 - (8 + n)) (8 + n) [⟨1, ⟨#[97]⟩, [(⟨#[118]⟩, s)], ⟨#[]⟩, 0⟩] [⟨#[97]⟩] ⟨#[]⟩ none = _ := hr
    rw [hr2]
    obtain ⟨g, hg⟩ : ∃ g, F.size + 1 - (8 + n) - L.length = g + 1 + 1 := ⟨F.size + 1 - (8 + n) - L.length - 2, by omega⟩
    have hcm : isCmt F (8 + 2 * n) = false := wd_second (by rw [d1]; decide)
    have h47 : wdAt F (8 + 2 * n) [60, 47] = true := by simp [wdAt, d0, d1]
    rw [hg, holdF_end (by simp) hcm h47]
    have htl : tellX [⟨1, ⟨#[97]⟩, [(⟨#[118]⟩, s)], ⟨#[]⟩, 0⟩] s (some (8 + n)) = .ok 0 [⟨1, ⟨#[97]⟩, [(⟨#[118]⟩, s)], ⟨#[]⟩, 0⟩, ⟨3, ⟨#[]⟩, [], s, 8 + n⟩] := by
      unfold tellX
      simp only
      rw [if_neg (by omega)]
      rfl
    rw [show (none : Option Nat).getD (8 + n) = 8 + n from rfl, htl]
    simp only
    rw [show ([⟨#[97]⟩] : List ByteArray).getLastD ⟨#[]⟩ = ⟨#[97]⟩ from rfl, hend]
    simp only
    rw [show ([⟨#[97]⟩] : List ByteArray).dropLast = [] from rfl, holdF_done]
    rfl
  refine ⟨12 + 2 * n, 8 + n, 8 + 2 * n, ?_⟩
  have hdecl : declX F = .ok 0 () := by
    unfold declX
    rw [show wdAt F 0 declB = false from wd_second (by rw [b1]; decide), show wdAt F 0 declN = false from wd_second (by rw [b1]; decide), show wdAt F 0 [60, 63] = false from wd_second (by rw [b1]; decide)]
    simp
  have hm0 : miscX F 0 = .ok 0 () := misc_none (by rw [b0]; decide) (wd_second (by rw [b1]; decide))
  have hmz : miscX F (12 + 2 * n) = .ok (12 + 2 * n) () := misc_none (by rw [bt_end F (by omega)]; decide) (by
    unfold isCmt
    simp only [wdAt]
    rw [bt_end F (by omega)]
    rfl)
  unfold tokensX
  rw [if_neg (by omega), if_neg (by rw [hbrk]; decide), hdecl]
  simp only
  rw [bodyX_go hm0 b0 hbeg]
  have hh2 : holdF F (F.size + 1 - (8 + n)) (8 + n) ([] ++ begT 0 ⟨#[97]⟩ false [(⟨#[118]⟩, s)]) (if false = true then [] else [] ++ [⟨#[97]⟩]) ⟨#[]⟩ none = _ := hhold
  rw [hh2]
  simp only
  rw [hmz]
  simp only
  rw [if_pos hsz.symm]
end

section
open Go.RowKit Go.PlainAid

/-- May this attribute be written? -/
def attrOk (a : At2) : Bool := nameB a.1 && decide (takenE a.2 = 0)
/-- .. these, behind others? -/
def attrsOk : List At2 → List At2 → Bool
  | _, [] => true
  | m, a :: l => attrOk a && !(m.any fun b => decide (b.1 = a.1)) && attrsOk (m ++ [a]) l
def attrsLong (l : List At2) : Bool := l.any fun a => decide (64 < a.1.size) || decide (4096 < a.2.size)
/-- May a token stand there? -/
def tkMay (pile : List ByteArray) (ahead : Int) (t : Tk) : Bool :=
  if t.kind = 1 then (decide (pile ≠ []) || decide (ahead = 0)) && nameB t.name && attrsOk [] t.attrs
  else if t.kind = 2 then decide (pile ≠ []) && decide (pile.getLastD ⟨#[]⟩ = t.name)
  else if t.kind = 3 then decide (pile ≠ []) && decide (ahead ≠ 3) && decide (t.text.size ≠ 0) && decide (takenE t.text = 0)
  else false
def tkPile (pile : List ByteArray) (t : Tk) : List ByteArray := if t.kind = 1 then pile ++ [t.name] else if t.kind = 2 then pile.dropLast else pile
def tkLong (pile : List ByteArray) (t : Tk) : Bool :=
  if t.kind = 1 then decide (64 < t.name.size) || decide (16 < t.attrs.length) || decide (pile.length = 64) || attrsLong t.attrs
  else if t.kind = 3 then decide (4096 < t.text.size) else false
/-- Tokens that may stand there, to the end. -/
def tksMay : List ByteArray → Int → List Tk → Bool
  | pile, ahead, [] => decide (pile = []) && decide (ahead ≠ 0)
  | pile, ahead, t :: l => tkMay pile ahead t && tksMay (tkPile pile t) t.kind l
def tksLong : List ByteArray → List Tk → Bool
  | _, [] => false
  | pile, t :: l => tkLong pile t || tksLong (tkPile pile t) l
/-- How a file is dressed. -/
structure Dr where
  q : UInt8
  enc : ByteArray → List UInt8
  bl : List UInt8
  cm : List UInt8
  short : Bool
def attrD (D : Dr) (a : At2) : List UInt8 := 32 :: (D.bl ++ (a.1.data.toList ++ ([61, D.q] ++ (D.enc a.2 ++ [D.q]))))
def attrsD (D : Dr) : List At2 → List UInt8
  | [] => []
  | a :: l => attrD D a ++ attrsD D l
/-- Is the next an end? -/
def nextEnd : List Tk → Bool
  | [] => false
  | u :: _ => decide (u.kind = 2)
/-- Tokens as they are written; skip: the first is written already. -/
def bodyD (D : Dr) : Bool → List Tk → List UInt8
  | _, [] => []
  | true, _ :: l => bodyD D false l
  | false, t :: l =>
    if t.kind = 1 then 60 :: (t.name.data.toList ++ (attrsD D t.attrs ++ (D.bl ++ (if (D.short && nextEnd l) = true then [47, 62] ++ bodyD D true l else [62] ++ (D.cm ++ bodyD D false l)))))
    else if t.kind = 2 then D.cm ++ ([60, 47] ++ (t.name.data.toList ++ (D.bl ++ ([62] ++ bodyD D false l))))
    else D.cm ++ (D.enc t.text ++ bodyD D false l)
/-- What is read again of a token. -/
def normT (t : Tk) : Tk := if t.kind = 1 then ⟨1, t.name, t.attrs, ⟨#[]⟩, 0⟩ else if t.kind = 2 then ⟨2, t.name, [], ⟨#[]⟩, 0⟩ else ⟨t.kind, ⟨#[]⟩, [], t.text, 0⟩
def noAt (t : Tk) : Tk := ⟨t.kind, t.name, t.attrs, t.text, 0⟩
/-- No byte that ends a text or a value in these quotes. -/
def TameQ (q : UInt8) (e : List UInt8) : Prop := ∀ c ∈ e, c ≠ 60 ∧ c ≠ 62 ∧ c ≠ q
/-- Texts in pieces. -/
def Pcs (q : UInt8) (e d : List UInt8) : Prop := ∃ L : List (List UInt8 × List UInt8), Encs L = e ∧ Decs L = d ∧ ∀ x ∈ L, Pc x.1 x.2 ∧ TameQ q x.1
/-- A comment, or none. -/
def CmOk (cm : List UInt8) : Prop := cm = [] ∨ ∃ b : List UInt8, (∀ c ∈ b, 32 ≤ c.toNat ∧ c.toNat < 128 ∧ c ≠ 45) ∧ cm = [60, 33, 45, 45] ++ (b ++ [45, 45, 62])
structure DrOk (D : Dr) : Prop where
  q : D.q = 34 ∨ D.q = 39
  enc : ∀ v, takenE v = 0 → Pcs D.q (D.enc v) v.data.toList
  bl : ∀ c ∈ D.bl, bBlank (c.toNat : Int) = true
  cm : CmOk D.cm
  no : D.cm ≠ [] ∨ D.bl = []
/-- Whole runes, wherever they stand. -/
def Whole (l : List UInt8) : Prop := ∀ t P, At t P l → brk t P = brk t (P + l.length)
theorem Whole.app {a b : List UInt8} (h : Whole a) (k : Whole b) : Whole (a ++ b) := fun t P hA => by
  rw [h t P hA.left, k t _ hA.right, List.length_append, Nat.add_assoc]
theorem Whole.ascii {l : List UInt8} (h : ∀ c ∈ l, c.toNat < 128) : Whole l := fun _ _ hA => brk_ascii hA h
theorem Whole.cons {c : UInt8} {l : List UInt8} (h : c.toNat < 128) (k : Whole l) : Whole (c :: l) := Whole.app (a := [c]) (Whole.ascii (by simpa using h)) k
theorem Whole.pcs {q : UInt8} {e d : List UInt8} (h : Pcs q e d) : Whole e := by
  obtain ⟨L, rfl, hd, h⟩ := h
  clear hd
  induction L with
  | nil => exact fun _ _ _ => rfl
  | cons x L ih => exact Whole.app (h x (by simp)).1.whole (ih fun y hy => h y (by simp [hy]))
theorem name_bytes {b : ByteArray} (h : nameB b = true) : ∃ c l, b.data.toList = c :: l ∧ bStart (c.toNat : Int) = true ∧ ∀ d ∈ b.data.toList, bByte (d.toNat : Int) = true := by
  unfold nameB allB at h
  simp only [Bool.and_eq_true, decide_eq_true_eq] at h
  obtain ⟨⟨h1, h2⟩, h3⟩ := h
  have hlen : b.data.toList.length = b.size := rfl
  have hget : ∀ k (hk : k < b.size), ((b.data.toList[k]'(by rw [hlen]; exact hk)).toNat : Int) = bt b k := fun k hk => by
    rw [← get_bt b k hk]
    rfl
  cases hb : b.data.toList with
  | nil => rw [hb] at hlen; simp at hlen; omega
  | cons c l =>
    refine ⟨c, l, rfl, ?_, fun d hd => ?_⟩
    · have := hget 0 (by omega)
      simp only [hb, List.getElem_cons_zero] at this
      rw [this]; exact h3
    · rw [← hb] at hd
      obtain ⟨k, hk, rfl⟩ := List.getElem_of_mem hd
      rw [hlen] at hk
      rw [hget k hk]
      exact h1 k hk
theorem byte_lt {b : Int} (h : bByte b = true) : b < 128 ∧ bBlank b = false ∧ b ≠ 60 ∧ b ≠ 62 ∧ b ≠ 47 ∧ b ≠ 61 := by
  unfold bByte at h
  unfold bBlank
  simp only [decide_eq_true_eq, decide_eq_false_iff_not] at h ⊢
  omega
theorem start_byteX {b : Int} (h : bStart b = true) : bByte b = true := start_byte h
theorem start_no {b : Int} (h : bStart b = true) : bBlank b = false ∧ b ≠ 60 ∧ b ≠ 62 ∧ b ≠ 47 ∧ b ≠ 33 ∧ b ≠ 63 := by
  unfold bStart at h
  unfold bBlank
  simp only [decide_eq_true_eq, decide_eq_false_iff_not] at h ⊢
  omega
theorem Whole.name {b : ByteArray} (h : nameB b = true) : Whole b.data.toList := by
  obtain ⟨_, _, _, _, h⟩ := name_bytes h
  exact Whole.ascii fun c hc => by have := (byte_lt (h c hc)).1; omega
theorem Whole.blanks {l : List UInt8} (h : ∀ c ∈ l, bBlank (c.toNat : Int) = true) : Whole l := Whole.ascii fun c hc => by
  have := h c hc
  unfold bBlank at this
  simp only [decide_eq_true_eq] at this
  omega
theorem Whole.cm {l : List UInt8} (h : CmOk l) : Whole l := by
  rcases h with rfl | ⟨b, hb, rfl⟩
  · exact fun _ _ _ => rfl
  · exact (Whole.ascii (by decide)).app ((Whole.ascii fun c hc => (hb c hc).2.1).app (Whole.ascii (by decide)))
theorem Whole.q {q : UInt8} (h : q = 34 ∨ q = 39) : Whole [q] := Whole.ascii (by rcases h with rfl | rfl <;> decide)
theorem attrsOk_parts : ∀ {l m : List At2}, attrsOk m l = true → (∀ a ∈ l, attrOk a = true)
  | [], _, _ => fun a ha => absurd ha (by simp)
  | b :: l, m, h => by
    unfold attrsOk at h
    simp only [Bool.and_eq_true] at h
    intro a ha
    rcases List.mem_cons.1 ha with rfl | ha
    · exact h.1.1
    · exact attrsOk_parts h.2 a ha
theorem Whole.attrs {D : Dr} (hD : DrOk D) : ∀ {l : List At2}, (∀ a ∈ l, attrOk a = true) → Whole (attrsD D l)
  | [], _ => fun _ _ _ => rfl
  | a :: l, h => by
    have ha := h a (by simp)
    unfold attrOk at ha
    simp only [Bool.and_eq_true, decide_eq_true_eq] at ha
    exact Whole.app (Whole.cons (by decide) ((Whole.blanks hD.bl).app ((Whole.name ha.1).app ((Whole.cons (c := 61) (by decide) (Whole.q hD.q)).app ((Whole.pcs (hD.enc _ ha.2)).app (Whole.q hD.q)))))) (Whole.attrs hD fun b hb => h b (by simp [hb]))
/-- What may stand is one of three. -/
theorem tkMay_cases {pile : List ByteArray} {ahead : Int} {t : Tk} (h : tkMay pile ahead t = true) :
    (t.kind = 1 ∧ (pile ≠ [] ∨ ahead = 0) ∧ nameB t.name = true ∧ attrsOk [] t.attrs = true) ∨ (t.kind = 2 ∧ pile ≠ [] ∧ pile.getLastD ⟨#[]⟩ = t.name) ∨ (t.kind = 3 ∧ pile ≠ [] ∧ ahead ≠ 3 ∧ t.text.size ≠ 0 ∧ takenE t.text = 0) := by
  unfold tkMay at h
  split at h
  · simp only [Bool.and_eq_true, Bool.or_eq_true, decide_eq_true_eq] at h
    exact .inl ⟨by assumption, h.1.1, h.1.2, h.2⟩
  · split at h
    · simp only [Bool.and_eq_true, decide_eq_true_eq] at h
      exact .inr (.inl ⟨by assumption, h.1, h.2⟩)
    · split at h
      · simp only [Bool.and_eq_true, decide_eq_true_eq] at h
        exact .inr (.inr ⟨by assumption, h.1.1.1, h.1.1.2, h.1.2, h.2⟩)
      · cases h
/-- The names of the open elements are names. -/
def PileOk (pile : List ByteArray) : Prop := ∀ b ∈ pile, nameB b = true
theorem getLastD_mem {α : Type} {l : List α} {d : α} (h : l ≠ []) : l.getLastD d ∈ l := by
  rw [List.getLastD_eq_getLast?]
  cases hl : l.getLast? with
  | none => exact absurd (List.getLast?_eq_none_iff.1 hl) h
  | some a => exact List.mem_of_getLast? hl
theorem PileOk.next {pile : List ByteArray} {ahead : Int} {t : Tk} (hp : PileOk pile) (h : tkMay pile ahead t = true) : PileOk (tkPile pile t) := by
  unfold tkPile
  rcases tkMay_cases h with ⟨h1, _, h2, _⟩ | ⟨h1, h2, _⟩ | ⟨h1, _⟩
  · rw [if_pos h1]
    intro b hb
    rcases List.mem_append.1 hb with hb | hb
    · exact hp b hb
    · rw [List.mem_singleton.1 hb]; exact h2
  · rw [if_neg (by omega), if_pos h1]
    exact fun b hb => hp b ((List.dropLast_sublist _).subset hb)
  · rw [if_neg (by omega), if_neg (by omega)]
    exact hp
theorem Whole.body {D : Dr} (hD : DrOk D) : ∀ {l : List Tk} {pile : List ByteArray} {ahead : Int} {skip : Bool}, PileOk pile → tksMay pile ahead l = true → Whole (bodyD D skip l)
  | [], _, _, skip, _, _ => by cases skip <;> exact fun _ _ _ => rfl
  | t :: l, pile, ahead, skip, hp, h => by
    unfold tksMay at h
    simp only [Bool.and_eq_true] at h
    have hn := hp.next h.1
    cases skip with
    | true =>
      unfold bodyD
      exact Whole.body hD hn h.2
    | false =>
      unfold bodyD
      rcases tkMay_cases h.1 with ⟨h1, _, h2, h3⟩ | ⟨h1, h2, h3⟩ | ⟨h1, _, _, _, h2⟩
      · rw [if_pos h1]
        refine Whole.cons (by decide) ((Whole.name h2).app ((Whole.attrs hD (attrsOk_parts h3)).app ((Whole.blanks hD.bl).app ?_)))
        split
        · exact (Whole.ascii (by decide)).app (Whole.body hD hn h.2)
        · exact (Whole.ascii (by decide)).app ((Whole.cm hD.cm).app (Whole.body hD hn h.2))
      · rw [if_neg (by omega), if_pos h1]
        have hnm : nameB t.name = true := by rw [← h3]; exact hp _ (getLastD_mem h2)
        exact (Whole.cm hD.cm).app ((Whole.ascii (by decide)).app ((Whole.name hnm).app ((Whole.blanks hD.bl).app ((Whole.ascii (by decide)).app (Whole.body hD hn h.2)))))
      · rw [if_neg (by omega), if_neg (by omega)]
        exact (Whole.cm hD.cm).app ((Whole.pcs (hD.enc _ h2)).app (Whole.body hD hn h.2))
end

section
open Go.RowKit Go.PlainAid

theorem tame_headQ {q : UInt8} {e : List UInt8} (h : TameQ q e) (hn : e ≠ []) {t : ByteArray} {P : Nat} (hA : At t P e) : P < t.size ∧ bt t P ≠ 60 ∧ bt t P ≠ 62 ∧ bt t P ≠ (q.toNat : Int) := by
  cases e with
  | nil => exact absurd rfl hn
  | cons c l =>
    obtain ⟨h1, h2⟩ := hA.head
    obtain ⟨h3, h4, h5⟩ := h c (by simp)
    refine ⟨h1, fun e => h3 (UInt8.toNat_inj.1 ?_), fun e => h4 (UInt8.toNat_inj.1 ?_), fun e => h5 (UInt8.toNat_inj.1 ?_)⟩
    · show c.toNat = 60; omega
    · show c.toNat = 62; omega
    · omega
theorem val_runQ {q : UInt8} {t : ByteArray} : ∀ {L : List (List UInt8 × List UInt8)} {P g : Nat} {acc : List UInt8}, (∀ x ∈ L, Pc x.1 x.2 ∧ TameQ q x.1) → At t P (Encs L) → valF t (q.toNat : Int) (g + L.length) P ⟨acc.toArray⟩ = valF t (q.toNat : Int) g (P + (Encs L).length) ⟨(acc ++ Decs L).toArray⟩
  | [], P, g, acc, _, _ => by
    show valF t _ (g + 0) P _ = valF t _ g (P + 0) ⟨(acc ++ []).toArray⟩
    rw [List.append_nil]
    rfl
  | x :: L, P, g, acc, h, hA => by
    have hA' : At t P (x.1 ++ Encs L) := hA
    obtain ⟨hp, ht⟩ := h x (by simp)
    obtain ⟨h1, h2, _, h4⟩ := tame_headQ ht hp.ne hA'.left
    rw [List.length_cons, ← Nat.add_assoc, valF_go h4 (by omega), hp.read t P hA'.left]
    simp only
    rw [toA_append]
    rw [show ((⟨x.2.toArray⟩ : ByteArray).data.toList) = x.2 by simp]
    rw [val_runQ (fun y hy => h y (by simp [hy])) hA'.right]
    show _ = valF t _ g (P + (x.1 ++ Encs L).length) ⟨(acc ++ (x.2 ++ Decs L)).toArray⟩
    rw [List.length_append, Nat.add_assoc, List.append_assoc]
theorem encs_geQ {q : UInt8} : ∀ {L : List (List UInt8 × List UInt8)}, (∀ x ∈ L, Pc x.1 x.2 ∧ TameQ q x.1) → L.length ≤ (Encs L).length
  | [], _ => Nat.zero_le _
  | x :: L, h => by
    have h1 := encs_geQ (L := L) (fun y hy => h y (by simp [hy]))
    have h2 := List.length_pos_iff.2 (h x (by simp)).1.ne
    show L.length + 1 ≤ (x.1 ++ Encs L).length
    rw [List.length_append]
    omega
/-- A quoted value. -/
theorem val_at {q : UInt8} (hq : q = 34 ∨ q = 39) {e : List UInt8} {v : ByteArray} {t : ByteArray} {P : Nat} (hE : Pcs q e v.data.toList) (hA : At t P (q :: (e ++ [q]))) (hz : v.size ≤ 4096) : valX t P = .ok (P + e.length + 2) v := by
  obtain ⟨L, h1, h2, h3⟩ := hE
  have hh := hA.head
  have hs := hA.size (by simp)
  simp only [List.length_cons, List.length_append, List.length_nil] at hs
  have hend := hA.tail.right.head
  have hge := encs_geQ h3
  rw [h1] at hge
  have hA1 : At t (P + 1) (Encs L) := by rw [h1]; exact hA.tail.left
  have hrun := val_runQ (g := t.size + 1 - P - L.length) (acc := []) h3 hA1
  rw [show t.size + 1 - P - L.length + L.length = t.size + 1 - P by omega, h1, h2, List.nil_append, mk_list] at hrun
  obtain ⟨g, hg⟩ : ∃ g, t.size + 1 - P - L.length = g + 1 := ⟨t.size - P - L.length, by omega⟩
  rw [hg, valF_end hend.2] at hrun
  have hrun2 : valF t (q.toNat : Int) (t.size + 1 - P) (P + 1) ⟨#[]⟩ = .ok (P + 1 + e.length + 1) v := hrun
  unfold valX
  rw [if_pos (by rw [hh.2]; rcases hq with rfl | rfl <;> decide), hh.2, hrun2]
  simp only
  rw [if_neg (by omega)]
  congr 1
  omega
theorem name_atB {b : ByteArray} (h : nameB b = true) (hl : b.size ≤ 64) {t : ByteArray} {P : Nat} (hA : At t P b.data.toList) (hend : bByte (bt t (P + b.size)) = false) : nameX t P = .ok (P + b.size) b := by
  obtain ⟨c, l, e, hs, hc⟩ := name_bytes h
  have hlen : b.data.toList.length = b.size := rfl
  have := name_at hA e hs hc (by omega) (by rw [hlen]; exact hend)
  rw [hlen, mk_list] at this
  exact this
theorem name_first {b : ByteArray} (h : nameB b = true) {t : ByteArray} {P : Nat} (hA : At t P b.data.toList) : P < t.size ∧ bStart (bt t P) = true := by
  obtain ⟨c, l, e, hs, _⟩ := name_bytes h
  rw [e] at hA
  exact ⟨hA.head.1, by rw [hA.head.2]; exact hs⟩
theorem blk_run : ∀ {l : List UInt8} {t : ByteArray} {P : Nat}, At t P l → (∀ c ∈ l, bBlank (c.toNat : Int) = true) → bBlank (bt t (P + l.length)) = false → blk t P = P + l.length
  | [], t, P, _, _, h => blk_same h
  | c :: l, t, P, hA, hc, h => by
    obtain ⟨h1, h2⟩ := hA.head
    have e : P + (c :: l).length = P + 1 + l.length := by rw [List.length_cons]; omega
    rw [e] at h ⊢
    rw [blk_more (by rw [h2]; exact hc c (by simp)) h1, blk_run hA.tail (fun d hd => hc d (by simp [hd])) h]
theorem bd_ne {c : UInt8} {n : Nat} (hn : n < 256) (h : c ≠ UInt8.ofNat n) : (c.toNat : Int) ≠ (n : Int) := fun e => h (UInt8.toNat_inj.1 (by simp; omega))
/-- A comment. -/
theorem cmt_body : ∀ {b : List UInt8} {t : ByteArray} {P f : Nat}, At t P (b ++ [45, 45, 62]) → (∀ c ∈ b, 32 ≤ c.toNat ∧ c.toNat < 128 ∧ c ≠ 45) → b.length < f → cmtF t f P = .ok (P + b.length + 3) ()
  | [], t, P, f, hA, _, hf => by
    obtain ⟨f, rfl⟩ : ∃ k, f = k + 1 := ⟨f - 1, by simp at hf; omega⟩
    have h0 := (hA 0 (by simp)).2
    have h1 := (hA 1 (by simp)).2
    have h2 := (hA 2 (by simp)).2
    have hw : wdAt t P [45, 45] = true := by
      simp only [wdAt, Bool.and_true]
      rw [show bt t P = 45 from h0, show bt t (P + 1) = 45 from h1]
      rfl
    rw [cmtF_end hw, if_pos (show bt t (P + 2) = 62 from h2)]
    rfl
  | c :: b, t, P, f, hA, hc, hf => by
    obtain ⟨f, rfl⟩ : ∃ k, f = k + 1 := ⟨f - 1, by simp at hf; omega⟩
    have hA' : At t P (c :: (b ++ [45, 45, 62])) := hA
    obtain ⟨h1, h2⟩ := hA'.head
    obtain ⟨c1, c2, c3⟩ := hc c (by simp)
    have h45 : bt t P ≠ 45 := by rw [h2]; exact bd_ne (n := 45) (by decide) c3
    have hw : wdAt t P [45, 45] = false := by
      have : (bt t P == 45) = false := by simpa using h45
      simp only [wdAt, this, Bool.false_and]
    have hlt : bt t P < 128 := by omega
    have hch : rChar (rn t P) = true := by
      rw [ascii_rn hlt]
      unfold rChar
      simp only [decide_eq_true_eq]
      omega
    rw [cmtF_go hw hch, ascii_wd hlt, cmt_body hA'.tail (fun d hd => hc d (by simp [hd])) (by simp at hf; omega), List.length_cons]
    congr 1
    omega
theorem cm_at {cm : List UInt8} (h : CmOk cm) (hn : cm ≠ []) {t : ByteArray} {P : Nat} (hA : At t P cm) : isCmt t P = true ∧ cmtX t P = .ok (P + cm.length) () ∧ bt t P = 60 ∧ P + cm.length ≤ t.size ∧ 4 ≤ cm.length := by
  rcases h with rfl | ⟨b, hb, rfl⟩
  · exact absurd rfl hn
  have hs := hA.size (by simp)
  have h0 := (hA 0 (by simp)).2
  have h1 := (hA 1 (by simp)).2
  have h2 := (hA 2 (by simp)).2
  have h3 := (hA 3 (by simp)).2
  have e0 : bt t P = 60 := h0
  refine ⟨?_, ?_, e0, hs, by simp⟩
  · unfold isCmt
    simp only [wdAt, Bool.and_true]
    rw [e0, show bt t (P + 1) = 33 from h1, show bt t (P + 1 + 1) = 45 from h2, show bt t (P + 1 + 1 + 1) = 45 from h3]
    rfl
  · unfold cmtX
    have := cmt_body (f := t.size + 1 - P) hA.right hb (by simp at hs; omega)
    rw [show P + ([60, 33, 45, 45] : List UInt8).length = P + 4 from rfl] at this
    rw [this]
    congr 1
    simp
    omega
theorem cm_head {cm : List UInt8} (h : CmOk cm) (hn : cm ≠ []) : ∃ r, cm = 60 :: 33 :: r := by
  rcases h with rfl | ⟨b, _, rfl⟩
  · exact absurd rfl hn
  · exact ⟨_, rfl⟩
/-- An attribute. -/
theorem attr_at {D : Dr} (hD : DrOk D) {a : At2} (ha : attrOk a = true) (hlong : a.1.size ≤ 64 ∧ a.2.size ≤ 4096) {l : List At2} (hl : l.length < 16) (hnew : (l.any fun b => decide (b.1 = a.1)) = false) {t : ByteArray} {P : Nat} (hA : At t P (a.1.data.toList ++ ([61, D.q] ++ (D.enc a.2 ++ [D.q])))) :
    attrX t P l = .ok (P + (a.1.data.toList ++ ([61, D.q] ++ (D.enc a.2 ++ [D.q]))).length) a := by
  unfold attrOk at ha
  simp only [Bool.and_eq_true, decide_eq_true_eq] at ha
  have hlen : a.1.data.toList.length = a.1.size := rfl
  have hA2 : At t (P + a.1.size) (61 :: (D.q :: (D.enc a.2 ++ [D.q]))) := hA.right
  have h61 : bt t (P + a.1.size) = 61 := hA2.head.2
  have hnm := name_atB ha.1 hlong.1 hA.left (by rw [h61]; decide)
  have hv := val_at hD.q (hD.enc _ ha.2) hA2.tail hlong.2
  unfold attrX
  rw [hnm]
  simp only
  rw [if_neg (by omega), if_neg (by rw [hnew]; simp), if_pos h61, hv]
  simp only
  congr 1
  simp only [List.length_append, List.length_cons, List.length_nil, hlen]
  omega
theorem any_snoc (m : List At2) (a b : At2) : ((m ++ [a]).any fun x => decide (x.1 = b.1)) = ((m.any fun x => decide (x.1 = b.1)) || decide (a.1 = b.1)) := by simp
/-- Attributes up to the end of a begin. -/
theorem begF_run {D : Dr} (hD : DrOk D) {sh : Bool} : ∀ {l m : List At2} {t : ByteArray} {P g : Nat}, attrsOk m l = true → attrsLong l = false → m.length + l.length ≤ 16 → At t P (attrsD D l ++ (D.bl ++ (if sh = true then [47, 62] else [62]))) → t.size < P + g →
    begF t g P m = .ok (P + (attrsD D l ++ (D.bl ++ (if sh = true then [47, 62] else [62]))).length) (sh, m ++ l)
  | [], m, t, P, g, _, _, _, hA, hg => by
    have hA' : At t P (D.bl ++ (if sh = true then [47, 62] else [62])) := hA
    have hs := hA'.size (by cases sh <;> simp)
    obtain ⟨g, rfl⟩ : ∃ k, g = k + 1 := ⟨g - 1, by omega⟩
    have hr := hA'.right
    cases sh with
    | true =>
      have h0 : bt t (P + D.bl.length) = 47 := (hr 0 (by simp)).2
      have h1 : bt t (P + D.bl.length + 1) = 62 := (hr 1 (by simp)).2
      rw [begF_short (blk_run hA'.left hD.bl (by rw [h0]; decide)) h0 h1, List.append_nil]
      congr 1
      show _ = P + (D.bl ++ [47, 62]).length
      simp
      omega
    | false =>
      have h0 : bt t (P + D.bl.length) = 62 := (hr 0 (by simp)).2
      rw [begF_end (blk_run hA'.left hD.bl (by rw [h0]; decide)) h0, List.append_nil]
      congr 1
      show _ = P + (D.bl ++ [62]).length
      simp
      omega
  | a :: l, m, t, P, g, hok, hlo, hz, hA, hg => by
    unfold attrsOk at hok
    simp only [Bool.and_eq_true, Bool.not_eq_true'] at hok
    obtain ⟨⟨ha, hnew⟩, hok⟩ := hok
    unfold attrsLong at hlo
    simp only [List.any_cons, Bool.or_eq_false_iff, decide_eq_false_iff_not] at hlo
    simp only [List.length_cons] at hz
    have hA0 : At t P ((32 :: (D.bl ++ (a.1.data.toList ++ ([61, D.q] ++ (D.enc a.2 ++ [D.q]))))) ++ (attrsD D l ++ (D.bl ++ (if sh = true then [47, 62] else [62])))) := by
      have : attrsD D (a :: l) = (32 :: (D.bl ++ (a.1.data.toList ++ ([61, D.q] ++ (D.enc a.2 ++ [D.q]))))) ++ attrsD D l := rfl
      rw [this, List.append_assoc] at hA
      exact hA
    have hA1 := hA0.left
    have hA2 : At t P ((32 :: D.bl) ++ (a.1.data.toList ++ ([61, D.q] ++ (D.enc a.2 ++ [D.q])))) := hA1
    have hnmb : nameB a.1 = true := by
      unfold attrOk at ha
      simp only [Bool.and_eq_true] at ha
      exact ha.1
    have hfirst := name_first hnmb hA2.right.left
    obtain ⟨n1, n2, n3, n4, _⟩ := start_no hfirst.2
    have hk : blk t P = P + (32 :: D.bl).length := blk_run hA2.left (fun c hc => by
      rcases List.mem_cons.1 hc with rfl | hc
      · decide
      · exact hD.bl c hc) n1
    have hp1 : P < t.size := hA2.head.1
    obtain ⟨g, rfl⟩ : ∃ k, g = k + 1 := ⟨g - 1, by omega⟩
    rw [begF_attr hk n3 n4 (by simp), attr_at hD ha ⟨by omega, by omega⟩ (by omega) hnew hA2.right]
    simp only
    obtain ⟨n, hn⟩ : ∃ n, (a.1.data.toList ++ ([61, D.q] ++ (D.enc a.2 ++ [D.q]))).length = n := ⟨_, rfl⟩
    have hln : (32 :: (D.bl ++ (a.1.data.toList ++ ([61, D.q] ++ (D.enc a.2 ++ [D.q]))))).length = (32 :: D.bl).length + n := by
      rw [← hn]; simp only [List.length_cons, List.length_append]; omega
    have hA3 := hA0.right
    rw [hln] at hA3
    rw [hn, begF_run hD (sh := sh) hok (by unfold attrsLong; exact hlo.2) (by rw [List.length_append, List.length_singleton]; omega) (by rw [Nat.add_assoc]; exact hA3) (by simp only [List.length_cons]; omega), List.append_assoc]
    congr 1
    show _ = P + (((32 :: (D.bl ++ (a.1.data.toList ++ ([61, D.q] ++ (D.enc a.2 ++ [D.q]))))) ++ attrsD D l) ++ _).length
    rw [List.append_assoc]
    have e2 := @List.length_append _ (32 :: (D.bl ++ (a.1.data.toList ++ ([61, D.q] ++ (D.enc a.2 ++ [D.q]))))) (attrsD D l ++ (D.bl ++ (if sh = true then [47, 62] else [62])))
    rw [hln] at e2
    omega
/-- A begin. -/
theorem beg_at {D : Dr} (hD : DrOk D) {sh : Bool} {nm : ByteArray} {l : List At2} (hnm : nameB nm = true) (hok : attrsOk [] l = true) (hlo : attrsLong l = false) (hn64 : nm.size ≤ 64) (hl16 : l.length ≤ 16) {n : Nat} (hn : n ≠ 64) {t : ByteArray} {P : Nat} (hA : At t P (60 :: (nm.data.toList ++ (attrsD D l ++ (D.bl ++ (if sh = true then [47, 62] else [62])))))) :
    begX t P n = .ok (P + (60 :: (nm.data.toList ++ (attrsD D l ++ (D.bl ++ (if sh = true then [47, 62] else [62]))))).length) (nm, sh, l) := by
  have hlen : nm.data.toList.length = nm.size := rfl
  have hA1 := hA.tail
  have hA2 := hA1.right
  rw [hlen] at hA2
  have hs := hA.size (by simp)
  have hnb : bByte (bt t (P + 1 + nm.size)) = false := by
    cases l with
    | cons a l =>
      have : At t (P + 1 + nm.size) (32 :: _) := hA2
      rw [this.head.2]
      decide
    | nil =>
      have h0 : At t (P + 1 + nm.size) (D.bl ++ (if sh = true then [47, 62] else [62])) := hA2
      cases hb : D.bl with
      | nil =>
        rw [hb] at h0
        cases sh with
        | true => rw [(show At t _ (47 :: [62]) from h0).head.2]; decide
        | false => rw [(show At t _ (62 :: []) from h0).head.2]; decide
      | cons c bl =>
        rw [hb] at h0
        rw [(show At t _ (c :: _) from h0).head.2]
        have := hD.bl c (by rw [hb]; simp)
        unfold bBlank at this
        unfold bByte
        simp only [decide_eq_true_eq, decide_eq_false_iff_not] at this ⊢
        omega
  have hx := name_atB hnm hn64 hA1.left hnb
  rw [begX_go hx hn, begF_run hD (sh := sh) hok hlo (by simpa using hl16) hA2 (by omega)]
  show Xr.ok _ _ = _
  rw [List.nil_append]
  congr 1
  simp only [List.length_cons, List.length_append, hlen]
  omega
/-- An end. -/
theorem end_at {D : Dr} (hD : DrOk D) {nm : ByteArray} (hnm : nameB nm = true) (hn64 : nm.size ≤ 64) {t : ByteArray} {P : Nat} (hA : At t P ([60, 47] ++ (nm.data.toList ++ (D.bl ++ [62])))) :
    endX t P nm = .ok (P + ([60, 47] ++ (nm.data.toList ++ (D.bl ++ [62]))).length) nm := by
  have hlen : nm.data.toList.length = nm.size := rfl
  have hA1 : At t (P + 2) (nm.data.toList ++ (D.bl ++ [62])) := hA.right
  have hA2 := hA1.right
  rw [hlen] at hA2
  have h62 : bt t (P + 2 + nm.size + D.bl.length) = 62 := (hA2.right 0 (by simp)).2
  have hnb : bByte (bt t (P + 2 + nm.size)) = false := by
    cases hb : D.bl with
    | nil =>
      rw [hb] at hA2
      rw [(show At t _ (62 :: []) from hA2).head.2]
      decide
    | cons c bl =>
      rw [hb] at hA2
      rw [(show At t _ (c :: _) from hA2).head.2]
      have := hD.bl c (by rw [hb]; simp)
      unfold bBlank at this
      unfold bByte
      simp only [decide_eq_true_eq, decide_eq_false_iff_not] at this ⊢
      omega
  have hx := name_atB hnm hn64 hA1.left hnb
  rw [endX_go hx rfl (blk_run hA2.left hD.bl (by rw [h62]; decide)), if_pos h62]
  congr 1
  simp only [List.length_cons, List.length_append, List.length_nil, hlen]
  omega
/-- A text, up to what ends it. -/
theorem hold_runQ {q : UInt8} {t : ByteArray} {out : List Tk} {pile : List ByteArray} (hpi : pile ≠ []) {d : UInt8} (hd : d ≠ 62) : ∀ {L : List (List UInt8 × List UInt8)} {P g : Nat} {acc : List UInt8} {fr : Option Nat}, (∀ x ∈ L, Pc x.1 x.2 ∧ TameQ q x.1) → At t P (Encs L ++ [60, d]) → L ≠ [] →
    holdF t (g + L.length) P out pile ⟨acc.toArray⟩ fr = holdF t g (P + (Encs L).length) out pile ⟨(acc ++ Decs L).toArray⟩ (some (fr.getD P))
  | [], _, _, _, _, _, _, hL => absurd rfl hL
  | x :: L, P, g, acc, fr, h, hA, _ => by
    have hA' : At t P (x.1 ++ (Encs L ++ [60, d])) := by rw [← List.append_assoc]; exact hA
    obtain ⟨hp, ht⟩ := h x (by simp)
    obtain ⟨h1, h2, h3, h4⟩ := tame_headQ ht hp.ne hA'.left
    have hle : (Encs (x :: L)).length = x.1.length + (Encs L).length := by show (x.1 ++ Encs L).length = _; rw [List.length_append]
    have hpos := List.length_pos_iff.2 hp.ne
    have hc := not_lt_cmt h2
    have hall : ∀ c ∈ Encs (x :: L) ++ [60, d], c ≠ 62 := fun c hc => by
      rcases List.mem_append.1 hc with hc | hc
      · obtain ⟨y, hy, hyc⟩ := List.mem_flatten.1 hc
        obtain ⟨z, hz, rfl⟩ := List.mem_map.1 hy
        exact ((h z hz).2 c hyc).2.1
      · simp only [List.mem_cons, List.not_mem_nil, or_false] at hc
        rcases hc with rfl | rfl
        · decide
        · exact hd
    have hno2 : bt t (P + 2) ≠ 62 := by
      have hlt : 2 < (Encs (x :: L) ++ [60, d]).length := by rw [List.length_append, hle]; simp; omega
      rw [(hA 2 hlt).2]
      exact bd_ne (n := 62) (by decide) (hall _ (List.getElem_mem _))
    have hst : holdF t (g + (x :: L).length) P out pile ⟨acc.toArray⟩ fr = holdF t (g + L.length) (P + x.1.length) out pile ⟨(acc ++ x.2).toArray⟩ (some (fr.getD P)) := by
      rw [List.length_cons, ← Nat.add_assoc, holdF_piece hpi hc.1 hc.2 h2 (by
        rintro (e | e)
        · omega
        · rw [no_close hno2] at e; cases e), hp.read t P hA'.left]
      simp only
      rw [toA_append]
    rw [hst]
    by_cases hL : L = []
    · subst hL
      rw [hle]
      show holdF t (g + 0) (P + x.1.length) out pile ⟨(acc ++ x.2).toArray⟩ _ = holdF t g (P + (x.1.length + 0)) out pile ⟨(acc ++ (x.2 ++ [])).toArray⟩ _
      rw [List.append_nil]
      rfl
    · rw [hold_runQ hpi hd (fun y hy => h y (by simp [hy])) hA'.right hL, hle]
      show holdF t g _ out pile ⟨(acc ++ x.2 ++ Decs L).toArray⟩ _ = holdF t g _ out pile ⟨(acc ++ (x.2 ++ Decs L)).toArray⟩ _
      rw [List.append_assoc, Nat.add_assoc]
      rfl
/-- A comment, or none, within. -/
theorem hold_cm {cm : List UInt8} (h : CmOk cm) {t : ByteArray} {P g : Nat} {out : List Tk} {pile : List ByteArray} {text : ByteArray} {fr : Option Nat} (hpi : pile ≠ []) (hA : At t P cm) (hg : t.size < P + g) : ∃ g', t.size < P + cm.length + g' ∧ holdF t g P out pile text fr = holdF t g' (P + cm.length) out pile text fr := by
  by_cases hn : cm = []
  · subst hn
    exact ⟨g, by simpa using hg, rfl⟩
  · obtain ⟨h1, h2, _, h3, h4⟩ := cm_at h hn hA
    obtain ⟨g, rfl⟩ : ∃ k, g = k + 1 := ⟨g - 1, by omega⟩
    exact ⟨g, by omega, by rw [holdF_cmt hpi h1, h2]⟩
end

section
open Go.RowKit Go.PlainAid

/-- A text that is not told yet. -/
def pend (txt : ByteArray) : Option Nat → List Tk
  | none => []
  | some a => [⟨3, ⟨#[]⟩, [], txt, a⟩]
theorem tell_pend {out : List Tk} {txt : ByteArray} {fr : Option Nat} (h : txt.size ≤ 4096) : tellX out txt fr = .ok 0 (out ++ pend txt fr) := by
  unfold tellX pend
  cases fr with
  | none => simp
  | some a => simp only; rw [if_neg (by omega)]
theorem cm_pair {cm : List UInt8} (h : CmOk cm) (x : List UInt8) : ∃ d r, cm ++ ([60, 47] ++ x) = 60 :: d :: r ∧ d ≠ 62 := by
  by_cases hn : cm = []
  · subst hn
    exact ⟨47, x, rfl, by decide⟩
  · obtain ⟨r, rfl⟩ := cm_head h hn
    exact ⟨33, r ++ ([60, 47] ++ x), rfl, by decide⟩
theorem body_head {D : Dr} (hD : DrOk D) {l : List Tk} {pile : List ByteArray} (h : tksMay pile 3 l = true) (hpi : pile ≠ []) : ∃ d r, bodyD D false l = 60 :: d :: r ∧ d ≠ 62 := by
  cases l with
  | nil =>
    unfold tksMay at h
    simp only [Bool.and_eq_true, decide_eq_true_eq] at h
    exact absurd h.1 hpi
  | cons t l =>
    unfold tksMay at h
    simp only [Bool.and_eq_true] at h
    unfold bodyD
    rcases tkMay_cases h.1 with ⟨h1, _, h2, _⟩ | ⟨h1, _⟩ | ⟨_, _, h2, _⟩
    · rw [if_pos h1]
      obtain ⟨c, r, e, hs, _⟩ := name_bytes h2
      rw [e]
      refine ⟨c, _, rfl, ?_⟩
      rintro rfl
      revert hs
      decide
    · rw [if_neg (by omega), if_pos h1]
      exact cm_pair hD.cm _
    · exact absurd rfl h2
/-- What the open elements hold. -/
theorem hold_body {D : Dr} (hD : DrOk D) : ∀ (n : Nat) {l : List Tk} {pile : List ByteArray} {ahead : Int} {txt : ByteArray} {fr : Option Nat} {P g : Nat} {out : List Tk} {t : ByteArray}, l.length ≤ n → PileOk pile → tksMay pile ahead l = true → tksLong pile l = false → pile.length ≤ 64 → (∀ b ∈ pile, b.size ≤ 64) → ahead ≠ 0 → (ahead ≠ 3 → fr = none ∧ txt = ⟨#[]⟩) → (pile = [] → ahead ≠ 3) → txt.size ≤ 4096 → At t P (bodyD D false l) → P ≤ t.size → t.size < P + g →
    ∃ toks, holdF t g P out pile txt fr = .ok (P + (bodyD D false l).length) (out ++ (pend txt fr ++ toks)) ∧ toks.map noAt = l.map normT := by
  intro n
  induction n with
  | zero =>
    intro l pile ahead txt fr P g out t hl hp hm hlo hpl hps h0 h3 hp3 htx hA hP hg
    obtain rfl : l = [] := List.length_eq_zero_iff.1 (by omega)
    unfold tksMay at hm
    simp only [Bool.and_eq_true, decide_eq_true_eq] at hm
    obtain ⟨rfl, rfl⟩ := h3 (hp3 hm.1)
    obtain ⟨g, rfl⟩ : ∃ k, g = k + 1 := ⟨g - 1, by omega⟩
    rw [hm.1, holdF_done]
    exact ⟨[], by simp [pend, bodyD], rfl⟩
  | succ n ih =>
    intro l pile ahead txt fr P g out t hl hp hm hlo hpl hps h0 h3 hp3 htx hA hP hg
    cases l with
    | nil =>
      unfold tksMay at hm
      simp only [Bool.and_eq_true, decide_eq_true_eq] at hm
      obtain ⟨rfl, rfl⟩ := h3 (hp3 hm.1)
      obtain ⟨g, rfl⟩ : ∃ k, g = k + 1 := ⟨g - 1, by omega⟩
      rw [hm.1, holdF_done]
      exact ⟨[], by simp [pend, bodyD], rfl⟩
    | cons k l =>
      have hpn := hp.next (t := k) (ahead := ahead) (by unfold tksMay at hm; simp only [Bool.and_eq_true] at hm; exact hm.1)
      unfold tksMay at hm
      simp only [Bool.and_eq_true] at hm
      obtain ⟨hk, hm⟩ := hm
      unfold tksLong at hlo
      simp only [Bool.or_eq_false_iff] at hlo
      obtain ⟨hkl, hlo⟩ := hlo
      simp only [List.length_cons] at hl
      unfold bodyD at hA ⊢
      rcases tkMay_cases hk with ⟨k1, k2, k3, k4⟩ | ⟨k1, k2, k3⟩ | ⟨k1, k2, k3, k4, k5⟩
      · -- a begin
        have hpi : pile ≠ [] := k2.resolve_right h0
        have e1 : tkPile pile k = pile ++ [k.name] := by unfold tkPile; rw [if_pos k1]
        rw [e1] at hm hlo hpn
        have enorm : normT k = ⟨1, k.name, k.attrs, ⟨#[]⟩, 0⟩ := by unfold normT; rw [if_pos k1]
        rw [if_pos k1] at hA ⊢
        unfold tkLong at hkl
        rw [if_pos k1] at hkl
        simp only [Bool.or_eq_false_iff, decide_eq_false_iff_not] at hkl
        obtain ⟨⟨⟨l1, l2⟩, l3⟩, l4⟩ := hkl
        have hfirst := name_first k3 hA.tail.left
        obtain ⟨n1, n2, n3, n4, n5, n6⟩ := start_no hfirst.2
        have b60 : bt t P = 60 := hA.head.2
        have hPs : P < t.size := hA.head.1
        have hcm : isCmt t P = false := wd_second n5
        have h47 : wdAt t P [60, 47] = false := wd_second n4
        obtain ⟨g, rfl⟩ : ∃ k, g = k + 1 := ⟨g - 1, by omega⟩
        rw [holdF_beg hpi hcm h47 b60, tell_pend htx]
        simp only
        by_cases hsh : (D.short && nextEnd l) = true
        · rw [if_pos hsh] at hA ⊢
          simp only [Bool.and_eq_true] at hsh
          cases l with
          | nil => exact absurd hsh.2 (by simp [nextEnd])
          | cons u l =>
            have hu2 : u.kind = 2 := by simpa [nextEnd] using hsh.2
            unfold tksMay at hm
            simp only [Bool.and_eq_true] at hm
            obtain ⟨hu, hm⟩ := hm
            unfold tksLong at hlo
            simp only [Bool.or_eq_false_iff] at hlo
            have e2 : tkPile (pile ++ [k.name]) u = pile := by unfold tkPile; rw [if_neg (by omega), if_pos hu2, List.dropLast_concat]
            rw [e2, hu2] at hm
            rw [e2] at hlo
            have hun : u.name = k.name := by
              rcases tkMay_cases hu with ⟨q1, _⟩ | ⟨_, _, q3⟩ | ⟨q1, _⟩
              · omega
              · rw [← q3]; simp [List.getLastD_eq_getLast?]
              · omega
            have enorm2 : normT u = ⟨2, k.name, [], ⟨#[]⟩, 0⟩ := by unfold normT; rw [if_neg (by omega), if_pos hu2, hun]
            have hbd : bodyD D true (u :: l) = bodyD D false l := by rw [bodyD]
            rw [hbd] at hA ⊢
            have hA2 : At t P ((60 :: (k.name.data.toList ++ (attrsD D k.attrs ++ (D.bl ++ (if true = true then [47, 62] else [62]))))) ++ bodyD D false l) := by
              have e : (60 :: (k.name.data.toList ++ (attrsD D k.attrs ++ (D.bl ++ (if true = true then [47, 62] else [62]))))) ++ bodyD D false l = 60 :: (k.name.data.toList ++ (attrsD D k.attrs ++ (D.bl ++ ([47, 62] ++ bodyD D false l)))) := by simp
              rw [e]; exact hA
            have hlen : (60 :: (k.name.data.toList ++ (attrsD D k.attrs ++ (D.bl ++ ([47, 62] ++ bodyD D false l))))).length = (60 :: (k.name.data.toList ++ (attrsD D k.attrs ++ (D.bl ++ (if true = true then [47, 62] else [62]))))).length + (bodyD D false l).length := by simp; omega
            have hbx := beg_at hD (sh := true) k3 k4 l4 (by omega) (by omega) (n := pile.length) l3 hA2.left
            have hs2 := hA2.left.size (by simp)
            have hA3 := hA2.right
            rw [hlen]
            obtain ⟨m, hmm⟩ : ∃ m, (60 :: (k.name.data.toList ++ (attrsD D k.attrs ++ (D.bl ++ (if true = true then [47, 62] else [62]))))).length = m := ⟨_, rfl⟩
            have hm1 : 1 ≤ m := by rw [← hmm]; simp
            rw [hmm] at hbx hA3 hs2 ⊢
            rw [hbx]
            simp only
            obtain ⟨toks, ht1, ht2⟩ := ih (l := l) (pile := pile) (ahead := 2) (txt := ⟨#[]⟩) (fr := none) (P := P + m) (g := g) (out := out ++ pend txt fr ++ begT P k.name true k.attrs) (by simp at hl; omega) hp hm hlo.2 hpl hps (by decide) (fun _ => ⟨rfl, rfl⟩) (fun _ => by decide) (by decide) hA3 hs2 (by omega)
            rw [if_pos trivial, ht1]
            refine ⟨begT P k.name true k.attrs ++ toks, ?_, ?_⟩
            · simp only [pend, List.nil_append, List.append_assoc, Nat.add_assoc]
            · rw [List.map_append, ht2, List.map_cons, List.map_cons, enorm, enorm2]
              rfl
        · rw [if_neg hsh] at hA ⊢
          have hA2 : At t P ((60 :: (k.name.data.toList ++ (attrsD D k.attrs ++ (D.bl ++ (if false = true then [47, 62] else [62]))))) ++ (D.cm ++ bodyD D false l)) := by
            have e : (60 :: (k.name.data.toList ++ (attrsD D k.attrs ++ (D.bl ++ (if false = true then [47, 62] else [62]))))) ++ (D.cm ++ bodyD D false l) = 60 :: (k.name.data.toList ++ (attrsD D k.attrs ++ (D.bl ++ ([62] ++ (D.cm ++ bodyD D false l))))) := by simp
            rw [e]; exact hA
          have hlen : (60 :: (k.name.data.toList ++ (attrsD D k.attrs ++ (D.bl ++ ([62] ++ (D.cm ++ bodyD D false l)))))).length = (60 :: (k.name.data.toList ++ (attrsD D k.attrs ++ (D.bl ++ (if false = true then [47, 62] else [62]))))).length + (D.cm.length + (bodyD D false l).length) := by simp; omega
          have hbx := beg_at hD (sh := false) k3 k4 l4 (by omega) (by omega) (n := pile.length) l3 hA2.left
          have hs2 := hA2.left.size (by simp)
          have hA3 := hA2.right
          rw [hlen]
          obtain ⟨m, hmm⟩ : ∃ m, (60 :: (k.name.data.toList ++ (attrsD D k.attrs ++ (D.bl ++ (if false = true then [47, 62] else [62]))))).length = m := ⟨_, rfl⟩
          have hm1 : 1 ≤ m := by rw [← hmm]; simp
          rw [hmm] at hbx hA3 hs2 ⊢
          rw [hbx]
          simp only
          rw [if_neg (by decide)]
          obtain ⟨g', hg', hcx⟩ := hold_cm (g := g) (out := out ++ pend txt fr ++ begT P k.name false k.attrs) (pile := pile ++ [k.name]) (text := ⟨#[]⟩) (fr := none) hD.cm (by simp) hA3.left (by omega)
          have hs3 : P + m + D.cm.length ≤ t.size := by
            by_cases hn : D.cm = []
            · rw [hn]; simpa using hs2
            · exact hA3.left.size hn
          rw [hcx]
          obtain ⟨toks, ht1, ht2⟩ := ih (l := l) (pile := pile ++ [k.name]) (ahead := 1) (txt := ⟨#[]⟩) (fr := none) (P := P + m + D.cm.length) (g := g') (out := out ++ pend txt fr ++ begT P k.name false k.attrs) (by omega) hpn (by rw [k1] at hm; exact hm) hlo (by rw [List.length_append, List.length_singleton]; omega) (fun b hb => by
            rcases List.mem_append.1 hb with hb | hb
            · exact hps b hb
            · rw [List.mem_singleton.1 hb]; omega) (by decide) (fun _ => ⟨rfl, rfl⟩) (fun h => absurd h (by simp)) (by decide) hA3.right hs3 hg'
          rw [ht1]
          refine ⟨begT P k.name false k.attrs ++ toks, ?_, ?_⟩
          · simp only [pend, List.nil_append, List.append_assoc, Nat.add_assoc]
          · rw [List.map_append, ht2, List.map_cons, enorm]
            rfl
      · -- an end
        have e1 : tkPile pile k = pile.dropLast := by unfold tkPile; rw [if_neg (by omega), if_pos k1]
        rw [e1] at hm hlo hpn
        have enorm : normT k = ⟨2, k.name, [], ⟨#[]⟩, 0⟩ := by unfold normT; rw [if_neg (by omega), if_pos k1]
        rw [if_neg (by omega), if_pos k1] at hA ⊢
        have hnm : nameB k.name = true := by rw [← k3]; exact hp _ (getLastD_mem k2)
        have hn64 : k.name.size ≤ 64 := by rw [← k3]; exact hps _ (getLastD_mem k2)
        obtain ⟨g', hg', hcx⟩ := hold_cm (out := out) (text := txt) (fr := fr) hD.cm k2 hA.left hg
        rw [hcx]
        have hA2 : At t (P + D.cm.length) (([60, 47] ++ (k.name.data.toList ++ (D.bl ++ [62]))) ++ bodyD D false l) := by
          have e : ([60, 47] ++ (k.name.data.toList ++ (D.bl ++ [62]))) ++ bodyD D false l = [60, 47] ++ (k.name.data.toList ++ (D.bl ++ ([62] ++ bodyD D false l))) := by simp
          rw [e]; exact hA.right
        have hex := end_at hD hnm hn64 hA2.left
        have hs2 := hA2.left.size (by simp)
        have hA3 := hA2.right
        have b60 : bt t (P + D.cm.length) = 60 := (hA2 0 (by simp)).2
        have b47 : bt t (P + D.cm.length + 1) = 47 := (hA2 1 (by simp)).2
        have hcm : isCmt t (P + D.cm.length) = false := wd_second (by rw [b47]; decide)
        have h47 : wdAt t (P + D.cm.length) [60, 47] = true := by
          simp only [wdAt, Bool.and_true]
          rw [b60, b47]
          rfl
        have hlen : (D.cm ++ ([60, 47] ++ (k.name.data.toList ++ (D.bl ++ ([62] ++ bodyD D false l))))).length = D.cm.length + (([60, 47] ++ (k.name.data.toList ++ (D.bl ++ [62]))).length + (bodyD D false l).length) := by simp; omega
        rw [hlen]
        obtain ⟨m, hmm⟩ : ∃ m, ([60, 47] ++ (k.name.data.toList ++ (D.bl ++ [62]))).length = m := ⟨_, rfl⟩
        have hm1 : 1 ≤ m := by rw [← hmm]; simp
        rw [hmm] at hex hA3 hs2 ⊢
        obtain ⟨g', rfl⟩ : ∃ k, g' = k + 1 := ⟨g' - 1, by omega⟩
        rw [holdF_end k2 hcm h47, tell_pend htx]
        simp only
        rw [k3, hex]
        simp only
        have hlast : pile.dropLast = [] → (2 : Int) ≠ 3 := fun _ => by decide
        obtain ⟨toks, ht1, ht2⟩ := ih (l := l) (pile := pile.dropLast) (ahead := 2) (txt := ⟨#[]⟩) (fr := none) (P := P + D.cm.length + m) (g := g') (out := out ++ pend txt fr ++ [⟨2, k.name, [], ⟨#[]⟩, P + D.cm.length⟩]) (by omega) hpn (by rw [k1] at hm; exact hm) hlo (by rw [List.length_dropLast]; omega) (fun b hb => hps b ((List.dropLast_sublist _).subset hb)) (by decide) (fun _ => ⟨rfl, rfl⟩) hlast (by decide) hA3 hs2 (by omega)
        rw [ht1]
        refine ⟨⟨2, k.name, [], ⟨#[]⟩, P + D.cm.length⟩ :: toks, ?_, ?_⟩
        · simp only [pend, List.nil_append, List.append_assoc, Nat.add_assoc, List.cons_append]
        · rw [List.map_cons, ht2, List.map_cons, enorm]
          rfl
      · -- a text
        obtain ⟨rfl, rfl⟩ := h3 k3
        have e1 : tkPile pile k = pile := by unfold tkPile; rw [if_neg (by omega), if_neg (by omega)]
        rw [e1, k1] at hm
        rw [e1] at hlo
        have enorm : normT k = ⟨3, ⟨#[]⟩, [], k.text, 0⟩ := by unfold normT; rw [if_neg (by omega), if_neg (by omega), k1]
        rw [if_neg (by omega), if_neg (by omega)] at hA ⊢
        unfold tkLong at hkl
        rw [if_neg (by omega), if_pos k1, decide_eq_false_iff_not] at hkl
        obtain ⟨g', hg', hcx⟩ := hold_cm (out := out) (text := ⟨#[]⟩) (fr := none) hD.cm k2 hA.left hg
        rw [hcx]
        have hA1 := hA.right
        obtain ⟨L, p1, p2, p3⟩ := hD.enc _ k5
        obtain ⟨d, r, hb, hd⟩ := body_head hD hm k2
        have hA2 : At t (P + D.cm.length) (Encs L ++ [60, d]) := by
          rw [hb, ← p1] at hA1
          have : At t (P + D.cm.length) ((Encs L ++ [60, d]) ++ r) := by rw [List.append_assoc]; exact hA1
          exact this.left
        have hL0 : L ≠ [] := by
          rintro rfl
          have : k.text.data.toList.length = k.text.size := rfl
          rw [← p2] at this
          exact k4 this.symm
        have hge := encs_geQ p3
        have hrun := hold_runQ (out := out) (g := g' - L.length) (acc := []) (fr := none) k2 hd p3 hA2 hL0
        have hse := (hA2.left).size (by
          intro e
          have := List.length_pos_iff.2 hL0
          rw [e] at hge
          simp at hge
          exact hL0 (by simpa using hge))
        rw [p1] at hrun hge hse
        rw [show g' - L.length + L.length = g' by omega, p2, List.nil_append, mk_list] at hrun
        have hrun2 : holdF t g' (P + D.cm.length) out pile ⟨#[]⟩ none = _ := hrun
        rw [hrun2, show (none : Option Nat).getD (P + D.cm.length) = P + D.cm.length from rfl]
        obtain ⟨toks, ht1, ht2⟩ := ih (l := l) (pile := pile) (ahead := 3) (txt := k.text) (fr := some (P + D.cm.length)) (P := P + D.cm.length + (D.enc k.text).length) (g := g' - L.length) (out := out) (by omega) hp hm hlo hpl hps (by decide) (fun h => absurd rfl h) (fun h => absurd h k2) (by omega) hA1.right hse (by omega)
        rw [ht1]
        refine ⟨⟨3, ⟨#[]⟩, [], k.text, P + D.cm.length⟩ :: toks, ?_, ?_⟩
        · simp only [pend, List.nil_append, List.length_append, Nat.add_assoc, List.cons_append]
        · rw [List.map_cons, ht2, List.map_cons, enorm]
          rfl
end

section
open Go.RowKit Go.PlainAid

/-- Blanks ahead. -/
theorem misc_bl {bl : List UInt8} (h : ∀ c ∈ bl, bBlank (c.toNat : Int) = true) {t : ByteArray} {P f : Nat} (hA : At t P bl) (hend : bBlank (bt t (P + bl.length)) = false) (hP : P ≤ t.size) (hf : t.size < P + f) : ∃ f', t.size < P + bl.length + f' ∧ miscF t f P = miscF t f' (P + bl.length) := by
  by_cases hn : bl = []
  · subst hn
    exact ⟨f, by simpa using hf, rfl⟩
  · have hr := blk_run hA h hend
    have hp := List.length_pos_iff.2 hn
    obtain ⟨f, rfl⟩ : ∃ k, f = k + 1 := ⟨f - 1, by omega⟩
    exact ⟨f, by omega, by rw [miscF_blank (by omega), hr]⟩
/-- A comment ahead. -/
theorem misc_cm {cm : List UInt8} (h : CmOk cm) (hn : cm ≠ []) {t : ByteArray} {P f : Nat} (hA : At t P cm) (hf : t.size < P + f) (hP : P ≤ t.size) : ∃ f', t.size < P + cm.length + f' ∧ miscF t f P = miscF t f' (P + cm.length) := by
  obtain ⟨h1, h2, h3, h4, h5⟩ := cm_at h hn hA
  obtain ⟨f, rfl⟩ : ∃ k, f = k + 1 := ⟨f - 1, by omega⟩
  exact ⟨f, by omega, by rw [miscF_cmt (by rw [blk_same (by rw [h3]; decide)]; omega) h1, h2]⟩
theorem misc_stop {t : ByteArray} {P f : Nat} (h : bBlank (bt t P) = false) (h2 : isCmt t P = false) : miscF t f P = .ok P () := by
  cases f with
  | zero => rfl
  | succ f => exact miscF_stop (by rw [blk_same h]; omega) h2
/-- Blanks, a comment, blanks. -/
theorem misc_ahead {D : Dr} (hD : DrOk D) {t : ByteArray} {P : Nat} (hA : At t P (D.bl ++ (D.cm ++ D.bl))) (hP : P ≤ t.size) (hend : bBlank (bt t (P + (D.bl ++ (D.cm ++ D.bl)).length)) = false) (h2 : isCmt t (P + (D.bl ++ (D.cm ++ D.bl)).length) = false) : miscX t P = .ok (P + (D.bl ++ (D.cm ++ D.bl)).length) () := by
  unfold miscX
  by_cases hn : D.cm = []
  · have hb : D.bl = [] := hD.no.resolve_left (fun h => h hn)
    rw [hn, hb] at hend h2 ⊢
    exact misc_stop hend h2
  · have hc := cm_at hD.cm hn hA.right.left
    have hs1 : P + D.bl.length ≤ t.size := by omega
    obtain ⟨f1, hf1, e1⟩ := misc_bl (f := t.size + 1 - P) hD.bl hA.left (by rw [hc.2.2.1]; decide) hP (by omega)
    obtain ⟨f2, hf2, e2⟩ := misc_cm hD.cm hn hA.right.left hf1 hs1
    have hlen : P + (D.bl ++ (D.cm ++ D.bl)).length = P + D.bl.length + D.cm.length + D.bl.length := by simp; omega
    rw [hlen] at hend h2 ⊢
    obtain ⟨f3, hf3, e3⟩ := misc_bl hD.bl hA.right.right hend hc.2.2.2.1 hf2
    rw [e1, e2, e3, misc_stop hend h2]
/-- Blanks and a comment to the end. -/
theorem misc_behind {D : Dr} (hD : DrOk D) {t : ByteArray} {P : Nat} (hA : At t P (D.bl ++ D.cm)) (hP : P ≤ t.size) (hz : P + (D.bl ++ D.cm).length = t.size) : miscX t P = .ok t.size () := by
  have hend : bBlank (bt t t.size) = false := by rw [bt_end t (Nat.le_refl _)]; decide
  have h2 : isCmt t t.size = false := (not_lt_cmt (by rw [bt_end t (Nat.le_refl _)]; decide)).1
  unfold miscX
  by_cases hn : D.cm = []
  · have hb : D.bl = [] := hD.no.resolve_left (fun h => h hn)
    rw [hn, hb] at hz
    simp only [List.append_nil, List.length_nil, Nat.add_zero] at hz
    rw [hz]
    exact misc_stop hend h2
  · have hc := cm_at hD.cm hn hA.right
    have hs1 : P + D.bl.length ≤ t.size := by omega
    obtain ⟨f1, hf1, e1⟩ := misc_bl (f := t.size + 1 - P) hD.bl hA.left (by rw [hc.2.2.1]; decide) hP (by omega)
    obtain ⟨f2, hf2, e2⟩ := misc_cm hD.cm hn hA.right hf1 hs1
    have hlen : P + D.bl.length + D.cm.length = t.size := by rw [← hz, List.length_append]; omega
    rw [hlen] at e2
    rw [e1, e2, misc_stop hend h2]
/-- A declaration, or none. -/
def HeadOk (h : List UInt8) : Prop := h = [] ∨ h = [60, 63, 120, 109, 108, 32, 118, 101, 114, 115, 105, 111, 110, 61, 34, 49, 46, 48, 34, 63, 62] ∨ h = [60, 63, 120, 109, 108, 32, 118, 101, 114, 115, 105, 111, 110, 61, 34, 49, 46, 48, 34, 32, 101, 110, 99, 111, 100, 105, 110, 103, 61, 34, 85, 84, 70, 45, 56, 34, 63, 62]
theorem wdAt_at : ∀ {l : List UInt8} {t : ByteArray} {P : Nat}, At t P l → wdAt t P (l.map fun c => (c.toNat : Int)) = true
  | [], _, _, _ => rfl
  | c :: l, t, P, h => by
    obtain ⟨_, h2⟩ := h.head
    simp only [List.map_cons, wdAt]
    rw [h2, wdAt_at h.tail]
    simp
theorem wdAt_ne {t : ByteArray} : ∀ {l : List Int} {P k : Nat} {b : Int}, l[k]? = some b → bt t (P + k) ≠ b → wdAt t P l = false
  | [], _, _, _, h, _ => by simp at h
  | a :: l, P, 0, b, h, hn => by
    simp only [List.getElem?_cons_zero, Option.some.injEq] at h
    subst h
    have : (bt t P == a) = false := by simpa using hn
    simp only [wdAt, this, Bool.false_and]
  | a :: l, P, k + 1, b, h, hn => by
    simp only [List.getElem?_cons_succ] at h
    simp only [wdAt]
    rw [wdAt_ne (P := P + 1) (k := k) h (by rw [show P + 1 + k = P + (k + 1) by omega]; exact hn), Bool.and_false]
theorem decl_at {h : List UInt8} (hh : HeadOk h) {t : ByteArray} (hA : At t 0 h) (hno : h = [] → bt t 0 ≠ 60 ∨ bt t 1 ≠ 63) : declX t = .ok h.length () := by
  unfold declX
  rcases hh with rfl | rfl | rfl
  · have key : ∀ l : List Int, l[0]? = some 60 → l[1]? = some 63 → wdAt t 0 l = false := fun l h0 h1 => by
      rcases hno rfl with e | e
      · exact wdAt_ne (k := 0) h0 e
      · exact wdAt_ne (k := 1) h1 e
    rw [key declB rfl rfl, key declN rfl rfl, key [60, 63] rfl rfl]
    simp
  · have : wdAt t 0 declB = true := wdAt_at hA
    rw [if_pos this]
    rfl
  · have h19 : bt t (0 + 19) = 32 := (hA 19 (by decide)).2
    have hb : wdAt t 0 declB = false := wdAt_ne (k := 19) (b := 63) rfl (by rw [h19]; decide)
    have hn : wdAt t 0 declN = true := wdAt_at hA
    rw [hb, if_neg (by decide), if_pos hn]
    rfl
/-- A whole file. -/
def fileD (D : Dr) (head : List UInt8) (l : List Tk) : List UInt8 := head ++ ((D.bl ++ (D.cm ++ D.bl)) ++ (bodyD D false l ++ (D.bl ++ D.cm)))
theorem body_first {D : Dr} {k : Tk} {l : List Tk} (k1 : k.kind = 1) (k3 : nameB k.name = true) : ∃ c r, bodyD D false (k :: l) = 60 :: c :: r ∧ bStart (c.toNat : Int) = true := by
  obtain ⟨c, x, e, hs, _⟩ := name_bytes k3
  unfold bodyD
  rw [if_pos k1, e]
  exact ⟨c, _, rfl, hs⟩
theorem file_read {D : Dr} (hD : DrOk D) {head : List UInt8} (hh : HeadOk head) {l : List Tk} (hm : tksMay [] 0 l = true) (hlo : tksLong [] l = false) (hz : (fileD D head l).length ≤ 262144) :
    ∃ toks, tokensX ⟨(fileD D head l).toArray⟩ = .ok (fileD D head l).length toks ∧ toks.map noAt = l.map normT := by
  obtain ⟨t, ht⟩ : ∃ t : ByteArray, (⟨(fileD D head l).toArray⟩ : ByteArray) = t := ⟨_, rfl⟩
  have hA : At t 0 (fileD D head l) := by rw [← ht]; exact At.self _
  have hsz : t.size = (fileD D head l).length := by rw [← ht]; rfl
  rw [ht]
  cases l with
  | nil => unfold tksMay at hm; simp at hm
  | cons k l =>
    have hm0 := hm
    have hlo0 := hlo
    unfold tksMay at hm
    simp only [Bool.and_eq_true] at hm
    obtain ⟨hk, hm⟩ := hm
    unfold tksLong at hlo
    simp only [Bool.or_eq_false_iff] at hlo
    obtain ⟨hkl, hlo⟩ := hlo
    obtain ⟨k1, k3, k4⟩ : k.kind = 1 ∧ nameB k.name = true ∧ attrsOk [] k.attrs = true := by
      rcases tkMay_cases hk with ⟨k1, _, k3, k4⟩ | ⟨_, k2, _⟩ | ⟨_, k2, _⟩
      · exact ⟨k1, k3, k4⟩
      · exact absurd rfl k2
      · exact absurd rfl k2
    have e1 : tkPile [] k = [k.name] := by unfold tkPile; rw [if_pos k1]; rfl
    rw [e1, k1] at hm
    rw [e1] at hlo
    unfold tkLong at hkl
    rw [if_pos k1] at hkl
    simp only [Bool.or_eq_false_iff, decide_eq_false_iff_not] at hkl
    obtain ⟨⟨⟨l1, l2⟩, l3⟩, l4⟩ := hkl
    have enorm : normT k = ⟨1, k.name, k.attrs, ⟨#[]⟩, 0⟩ := by unfold normT; rw [if_pos k1]
    -- whole runes
    have hw : Whole (fileD D head (k :: l)) := by
      have hwh : Whole head := Whole.ascii (by rcases hh with rfl | rfl | rfl <;> decide)
      exact hwh.app (((Whole.blanks hD.bl).app ((Whole.cm hD.cm).app (Whole.blanks hD.bl))).app ((Whole.body hD (pile := []) (fun b hb => absurd hb (by simp)) hm0).app ((Whole.blanks hD.bl).app (Whole.cm hD.cm))))
    have hbrk : brk t 0 = -1 := by rw [hw t 0 hA, Nat.zero_add, brk_end t _ (by omega)]
    unfold fileD at hA hsz hz ⊢
    obtain ⟨c, r, hbd, hcs⟩ := body_first (D := D) (l := l) k1 k3
    obtain ⟨n1, n2, n3, n4, n5, n6⟩ := start_no hcs
    have hA1 := hA.right
    rw [Nat.zero_add] at hA1
    have hA2 := hA1.right
    have hA3 := hA2.left
    have hB := hA3
    rw [hbd] at hB
    obtain ⟨H, hH⟩ : ∃ H, head.length = H := ⟨_, rfl⟩
    obtain ⟨M, hM⟩ : ∃ M, (D.bl ++ (D.cm ++ D.bl)).length = M := ⟨_, rfl⟩
    rw [hH] at hA1 hA2 hA3 hB
    rw [hM] at hA2 hA3 hB
    have b60 : bt t (H + M) = 60 := hB.head.2
    have b61 : bt t (H + M + 1) = (c.toNat : Int) := hB.tail.head.2
    have hPs : H + M < t.size := hB.head.1
    have hdecl : declX t = .ok H () := by
      have := decl_at hh hA.left (fun e => by
        have eH : H = 0 := by rw [← hH, e]; rfl
        rw [eH] at hA1 b60 b61
        rw [Nat.zero_add] at b60 b61
        by_cases hb : D.bl = []
        · by_cases hc : D.cm = []
          · have eM : M = 0 := by rw [← hM, hb, hc]; rfl
            rw [eM] at b61
            exact .inr (by rw [b61]; exact n6)
          · obtain ⟨r, er⟩ := cm_head hD.cm hc
            have h1 := hA1.left
            rw [hb, List.nil_append, er] at h1
            have h2 : At t 0 (60 :: 33 :: r) := (show At t 0 ((60 :: 33 :: r) ++ _) from h1).left
            exact .inr (by rw [h2.tail.head.2]; decide)
        · obtain ⟨x, y, hxy⟩ := List.exists_cons_of_ne_nil hb
          have h1 := hA1.left.left
          rw [hxy] at h1
          have h2 := hD.bl x (by rw [hxy]; simp)
          exact .inl (by rw [h1.head.2]; intro e; rw [e] at h2; exact absurd h2 (by decide)))
      rw [hH] at this
      exact this
    have hmisc : miscX t H = .ok (H + M) () := by
      have := misc_ahead hD hA1.left (by omega) (by rw [hM, b60]; decide) (by rw [hM]; exact wd_second (by rw [b61]; exact n5))
      rw [hM] at this
      exact this
    have hlenf : (head ++ ((D.bl ++ (D.cm ++ D.bl)) ++ (bodyD D false (k :: l) ++ (D.bl ++ D.cm)))).length = H + M + (bodyD D false (k :: l)).length + (D.bl ++ D.cm).length := by
      simp only [List.length_append] at hH hM ⊢
      omega
    rw [hlenf] at hsz hz ⊢
    have hend : miscX t (H + M + (bodyD D false (k :: l)).length) = .ok t.size () := misc_behind hD hA2.right (by omega) hsz.symm
    have fin : ∀ {q : Nat} {sh : Bool} {toks : List Tk}, begX t (H + M) 0 = .ok q (k.name, sh, k.attrs) → holdF t (t.size + 1 - q) q ([] ++ begT (H + M) k.name sh k.attrs) (if sh = true then [] else [] ++ [k.name]) ⟨#[]⟩ none = .ok (H + M + (bodyD D false (k :: l)).length) toks →
        tokensX t = .ok (H + M + (bodyD D false (k :: l)).length + (D.bl ++ D.cm).length) toks := fun hbx hho => by
      unfold tokensX
      rw [if_neg (by omega), if_neg (by rw [hbrk]; decide), hdecl]
      simp only
      rw [bodyX_go hmisc b60 hbx, hho]
      simp only
      rw [hend]
      simp only
      rw [if_pos trivial, hsz]
    rw [bodyD, if_pos k1] at hA3
    by_cases hsh : (D.short && nextEnd l) = true
    · rw [if_pos hsh] at hA3
      simp only [Bool.and_eq_true] at hsh
      cases l with
      | nil => exact absurd hsh.2 (by simp [nextEnd])
      | cons u l =>
        have hu2 : u.kind = 2 := by simpa [nextEnd] using hsh.2
        unfold tksMay at hm
        simp only [Bool.and_eq_true] at hm
        obtain ⟨hu, hm⟩ := hm
        have e2 : tkPile [k.name] u = [] := by unfold tkPile; rw [if_neg (by omega), if_pos hu2]; rfl
        rw [e2, hu2] at hm
        have hun : u.name = k.name := by
          rcases tkMay_cases hu with ⟨q1, _⟩ | ⟨_, _, q3⟩ | ⟨q1, _⟩
          · omega
          · rw [← q3]; rfl
          · omega
        obtain rfl : l = [] := by
          cases l with
          | nil => rfl
          | cons x l =>
            unfold tksMay at hm
            simp only [Bool.and_eq_true] at hm
            rcases tkMay_cases hm.1 with ⟨_, q, _⟩ | ⟨_, q, _⟩ | ⟨_, q, _⟩
            · rcases q with q | q
              · exact absurd rfl q
              · exact absurd q (by decide)
            · exact absurd rfl q
            · exact absurd rfl q
        have enorm2 : normT u = ⟨2, k.name, [], ⟨#[]⟩, 0⟩ := by unfold normT; rw [if_neg (by omega), if_pos hu2, hun]
        have hbd2 : bodyD D true [u] = [] := by rw [bodyD]; rfl
        have hsh2 : (D.short && nextEnd [u]) = true := by simp only [Bool.and_eq_true]; exact hsh
        rw [hbd2, List.append_nil] at hA3
        have hbx := beg_at hD (sh := true) k3 k4 l4 (by omega) (by omega) (n := 0) (by decide) hA3
        have hle : (bodyD D false [k, u]).length = (60 :: (k.name.data.toList ++ (attrsD D k.attrs ++ (D.bl ++ (if true = true then [47, 62] else [62]))))).length := by
          rw [bodyD, if_pos k1, if_pos hsh2, hbd2, List.append_nil, if_pos rfl]
        rw [← hle] at hbx
        refine ⟨begT (H + M) k.name true k.attrs, fin hbx ?_, ?_⟩
        · rw [if_pos rfl]
          obtain ⟨g, hg⟩ : ∃ g, t.size + 1 - (H + M + (bodyD D false [k, u]).length) = g + 1 := ⟨t.size - (H + M + (bodyD D false [k, u]).length), by omega⟩
          rw [hg, holdF_done, List.nil_append]
        · rw [List.map_cons, List.map_cons, List.map_nil, enorm, enorm2]
          rfl
    · rw [if_neg hsh] at hA3
      have hA4 : At t (H + M) ((60 :: (k.name.data.toList ++ (attrsD D k.attrs ++ (D.bl ++ (if false = true then [47, 62] else [62]))))) ++ (D.cm ++ bodyD D false l)) := by
        have e : (60 :: (k.name.data.toList ++ (attrsD D k.attrs ++ (D.bl ++ (if false = true then [47, 62] else [62]))))) ++ (D.cm ++ bodyD D false l) = 60 :: (k.name.data.toList ++ (attrsD D k.attrs ++ (D.bl ++ ([62] ++ (D.cm ++ bodyD D false l))))) := by simp
        rw [e]; exact hA3
      have hlen : (bodyD D false (k :: l)).length = (60 :: (k.name.data.toList ++ (attrsD D k.attrs ++ (D.bl ++ (if false = true then [47, 62] else [62]))))).length + (D.cm.length + (bodyD D false l).length) := by
        rw [bodyD, if_pos k1, if_neg hsh]
        simp
        omega
      have hbx := beg_at hD (sh := false) k3 k4 l4 (by omega) (by omega) (n := 0) (by decide) hA4.left
      have hs2 := hA4.left.size (by simp)
      have hA5 := hA4.right
      obtain ⟨m, hmm⟩ : ∃ m, (60 :: (k.name.data.toList ++ (attrsD D k.attrs ++ (D.bl ++ (if false = true then [47, 62] else [62]))))).length = m := ⟨_, rfl⟩
      rw [hmm] at hbx hA5 hs2 hlen
      obtain ⟨g', hg', hcx⟩ := hold_cm (g := t.size + 1 - (H + M + m)) (out := [] ++ begT (H + M) k.name false k.attrs) (pile := [k.name]) (text := ⟨#[]⟩) (fr := none) hD.cm (by simp) hA5.left (by omega)
      have hs3 : H + M + m + D.cm.length ≤ t.size := by
        by_cases hn : D.cm = []
        · rw [hn]; simpa using hs2
        · exact hA5.left.size hn
      have hpn : PileOk [k.name] := fun b hb => by rw [List.mem_singleton.1 hb]; exact k3
      obtain ⟨toks, ht1, ht2⟩ := hold_body hD l.length (l := l) (pile := [k.name]) (ahead := 1) (txt := ⟨#[]⟩) (fr := none) (P := H + M + m + D.cm.length) (g := g') (out := [] ++ begT (H + M) k.name false k.attrs) (Nat.le_refl _) hpn hm hlo (by simp) (fun b hb => by rw [List.mem_singleton.1 hb]; omega) (by decide) (fun _ => ⟨rfl, rfl⟩) (fun h => absurd h (by simp)) (by decide) hA5.right hs3 hg'
      refine ⟨begT (H + M) k.name false k.attrs ++ toks, fin hbx ?_, ?_⟩
      · rw [if_neg (by decide), List.nil_append, List.nil_append]
        rw [List.nil_append] at hcx ht1
        rw [hcx, ht1, hlen]
        congr 1
        omega
      · rw [List.map_append, ht2, List.map_cons, enorm]
        rfl
end
end Go.Proofs.YtdipbfchlopeaaaGreatDoor
