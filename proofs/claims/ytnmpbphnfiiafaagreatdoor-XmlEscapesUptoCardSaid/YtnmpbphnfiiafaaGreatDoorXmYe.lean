/-
  A part of XML, plain: a text that XML takes is runes, one after the other.
-/
import Derived.Test.YtnmpbphnfiiafaaGreatDoorXmO4
namespace Go.Proofs.YtnmpbphnfiiafaaGreatDoor
open Go.RowKit Go.PlainAid

theorem byte_of {x : Int} (h0 : 0 ≤ x) (h1 : x < 256) : ((x.toNat.toUInt8).toNat : Int) = x := by
  have : x.toNat.toUInt8.toNat = x.toNat := by
    show (UInt8.ofNat x.toNat).toNat = x.toNat
    rw [UInt8.toNat_ofNat']
    omega
  rw [this]
  omega
/-- A rune, as it stands. -/
theorem enc_at {r : Int} (h : rChar r = true) {t : ByteArray} {P : Nat} (hA : At t P (Lib.encodeRune r)) : P < t.size ∧ rn t P = r ∧ wd t P = (Lib.encodeRune r).length := by
  unfold rChar at h
  simp only [decide_eq_true_eq] at h
  have hw := formS_wd t P
  unfold rn
  unfold Lib.encodeRune at hA ⊢
  by_cases h1 : r ≤ 127
  · rw [Lib.encodeRuneZ_one (by omega) h1] at hA ⊢
    obtain ⟨a0, a1⟩ := hA.head
    rw [byte_of (by omega) (by omega)] at a1
    have hf : formS t P = (r, 1) := by unfold formS formI; rw [a1, if_pos (by omega)]
    rw [hf] at hw ⊢
    exact ⟨a0, rfl, by simp at hw ⊢; omega⟩
  by_cases h2 : r ≤ 2047
  · rw [Lib.encodeRuneZ_two (by omega) h2] at hA ⊢
    have a0 := hA 0 (by simp)
    have a1 := hA 1 (by simp)
    simp only [List.map_cons, List.map_nil, List.getElem_cons_zero, List.getElem_cons_succ, Nat.add_zero] at a0 a1
    rw [byte_of (by omega) (by omega)] at a0 a1
    have hf : formS t P = (r, 2) := by
      unfold formS formI
      rw [a0.2, a1.2, if_neg (by omega), if_pos (by omega), if_pos (by omega)]
      congr 1
      omega
    rw [hf] at hw ⊢
    exact ⟨a0.1, rfl, by simp at hw ⊢; omega⟩
  by_cases h3 : r ≤ 65535
  · rw [Lib.encodeRuneZ_three (by omega)] at hA ⊢
    have a0 := hA 0 (by simp)
    have a1 := hA 1 (by simp)
    have a2 := hA 2 (by simp)
    simp only [List.map_cons, List.map_nil, List.getElem_cons_zero, List.getElem_cons_succ, Nat.add_zero] at a0 a1 a2
    rw [byte_of (by omega) (by omega)] at a0 a1 a2
    have hf : formS t P = (r, 3) := by
      unfold formS formI
      rw [a0.2, a1.2, a2.2, if_neg (by omega), if_neg (by omega), if_pos (by omega), if_pos (by omega)]
      congr 1
      omega
    rw [hf] at hw ⊢
    exact ⟨a0.1, rfl, by simp at hw ⊢; omega⟩
  · rw [Lib.encodeRuneZ_four (by omega) (by omega)] at hA ⊢
    have a0 := hA 0 (by simp)
    have a1 := hA 1 (by simp)
    have a2 := hA 2 (by simp)
    have a3 := hA 3 (by simp)
    simp only [List.map_cons, List.map_nil, List.getElem_cons_zero, List.getElem_cons_succ, Nat.add_zero] at a0 a1 a2 a3
    rw [byte_of (by omega) (by omega)] at a0 a1 a2 a3
    have hf : formS t P = (r, 4) := by
      unfold formS formI
      rw [a0.2, a1.2, a2.2, a3.2, if_neg (by omega), if_neg (by omega), if_neg (by omega), if_pos (by omega), if_pos (by omega)]
      congr 1
      omega
    rw [hf] at hw ⊢
    exact ⟨a0.1, rfl, by simp at hw ⊢; omega⟩
theorem list_bts {s : ByteArray} {p : Nat} {l : List Int} (hin : p + l.length ≤ s.size) (h : ∀ k (hk : k < l.length), l[k] = bt s (p + k)) : (l.map fun x => x.toNat.toUInt8) = sub s p l.length := by
  have hl := sub_len hin
  apply List.ext_getElem
  · rw [List.length_map, hl]
  · intro k h1 h2
    rw [List.length_map] at h1
    rw [List.getElem_map]
    have hs := sub_at hin h1 h2
    have hx := h k h1
    have hb : 0 ≤ bt s (p + k) := bt_nonneg s _
    apply UInt8.toNat_inj.1
    have h256 : ((sub s p l.length)[k].toNat : Int) < 256 := by have := UInt8.toNat_lt (sub s p l.length)[k]; omega
    have := byte_of (x := l[k]) (by omega) (by omega)
    omega
/-- What stands there is its rune's form. -/
theorem enc_form {s : ByteArray} {p : Nat} (hp : p < s.size) (hr : ¬ rn s p < 0) : Lib.encodeRune (rn s p) = sub s p (wd s p) := by
  have hin := wd_in s p hp
  have hw := formS_wd s p
  have b0 := bt_nonneg s p
  unfold rn at hr ⊢
  unfold formS at hr hw ⊢
  unfold formI at hr hw ⊢
  unfold Lib.encodeRune
  split at hr
  · rename_i c1
    rw [if_pos c1] at hw ⊢
    simp only at hw ⊢
    rw [Lib.encodeRuneZ_one b0 (by omega)]
    have e : wd s p = 1 := by omega
    rw [e]
    exact list_bts (l := [bt s p]) (show p + 1 ≤ s.size by omega) (fun k hk => by
      obtain rfl : k = 0 := by simp at hk; omega
      rfl)
  rename_i c1
  rw [if_neg c1] at hw ⊢
  split at hr
  · rename_i c2
    rw [if_pos c2] at hw ⊢
    split at hr
    · rename_i d
      rw [if_pos d] at hw ⊢
      simp only at hw ⊢
      have e : wd s p = 2 := by omega
      rw [e] at hin ⊢
      rw [Lib.encodeRuneZ_two (by omega) (by omega)]
      exact list_bts (l := [_, _]) hin (fun k hk => by
        have : k = 0 ∨ k = 1 := by simp at hk; omega
        rcases this with rfl | rfl
        · show 192 + _ = bt s p
          omega
        · show 128 + _ = bt s (p + 1)
          omega)
    · exact absurd (show (-1 : Int) < 0 by decide) hr
  rename_i c2
  rw [if_neg c2] at hw ⊢
  split at hr
  · rename_i c3
    rw [if_pos c3] at hw ⊢
    split at hr
    · rename_i d
      rw [if_pos d] at hw ⊢
      simp only at hw ⊢
      have e : wd s p = 3 := by omega
      rw [e] at hin ⊢
      rw [Lib.encodeRuneZ_three (by omega)]
      exact list_bts (l := [_, _, _]) hin (fun k hk => by
        have : k = 0 ∨ k = 1 ∨ k = 2 := by simp at hk; omega
        rcases this with rfl | rfl | rfl
        · show 224 + _ = bt s p
          omega
        · show 128 + _ = bt s (p + 1)
          omega
        · show 128 + _ = bt s (p + 2)
          omega)
    · exact absurd (show (-1 : Int) < 0 by decide) hr
  rename_i c3
  rw [if_neg c3] at hw ⊢
  split at hr
  · rename_i c4
    rw [if_pos c4] at hw ⊢
    split at hr
    · rename_i d
      rw [if_pos d] at hw ⊢
      simp only at hw ⊢
      have e : wd s p = 4 := by omega
      rw [e] at hin ⊢
      rw [Lib.encodeRuneZ_four (by omega) (by omega)]
      exact list_bts (l := [_, _, _, _]) hin (fun k hk => by
        have : k = 0 ∨ k = 1 ∨ k = 2 ∨ k = 3 := by simp at hk; omega
        rcases this with rfl | rfl | rfl | rfl
        · show 240 + _ = bt s p
          omega
        · show 128 + _ = bt s (p + 1)
          omega
        · show 128 + _ = bt s (p + 2)
          omega
        · show 128 + _ = bt s (p + 3)
          omega)
    · exact absurd (show (-1 : Int) < 0 by decide) hr
  · exact absurd (show (-1 : Int) < 0 by decide) hr
/-- The bytes of runes. -/
def encL (L : List Int) : List UInt8 := L.flatMap Lib.encodeRune
/-- Runes that XML takes. -/
def Chars (L : List Int) : Prop := ∀ r ∈ L, rChar r = true
theorem rChar_pos {r : Int} (h : rChar r = true) : ¬ r < 0 := by
  unfold rChar at h
  simp only [decide_eq_true_eq] at h
  omega
theorem chars_run {t : ByteArray} : ∀ {L : List Int} {P f : Nat}, Chars L → At t P (encL L) → P + (encL L).length = t.size → takenF t f P = true ∧ brk t P = -1
  | [], P, f, _, _, hz => by
    have : t.size ≤ P := by simpa [encL] using (Nat.le_of_eq hz.symm)
    refine ⟨?_, brk_end t P this⟩
    cases f with
    | zero => rfl
    | succ f => exact takenF_end this
  | r :: L, P, f, h, hA, hz => by
    have hA' : At t P (Lib.encodeRune r ++ encL L) := hA
    obtain ⟨h1, h2, h3⟩ := enc_at (h r (by simp)) hA'.left
    have hz' : P + ((Lib.encodeRune r).length + (encL L).length) = t.size := by rw [← List.length_append]; exact hz
    obtain ⟨i1, i2⟩ := chars_run (L := L) (P := P + (Lib.encodeRune r).length) (f := f - 1) (fun x hx => h x (by simp [hx])) hA'.right (by omega)
    have hr := h r (by simp)
    refine ⟨?_, ?_⟩
    · cases f with
      | zero => rfl
      | succ f => rw [takenF_go h1 (by rw [h2]; exact hr), h3]; exact i1
    · rw [brk_char h1 (by rw [h2]; exact rChar_pos hr), h3, i2]
theorem chars_taken {L : List Int} (h : Chars L) : takenE ⟨(encL L).toArray⟩ = 0 := by
  obtain ⟨t, ht⟩ : ∃ t : ByteArray, (⟨(encL L).toArray⟩ : ByteArray) = t := ⟨_, rfl⟩
  have hA : At t 0 (encL L) := by rw [← ht]; exact At.self _
  have hz : 0 + (encL L).length = t.size := by rw [← ht, Nat.zero_add]; rfl
  rw [ht]
  obtain ⟨h1, h2⟩ := chars_run (f := t.size + 1) h hA hz
  unfold takenE takenX
  rw [h2, if_neg (by decide), if_pos h1]
/-- The runes of a text. -/
def runesF (s : ByteArray) : Nat → Nat → List Int
  | 0, _ => []
  | f + 1, p => if s.size ≤ p then [] else rn s p :: runesF s f (p + wd s p)
def runes (s : ByteArray) : List Int := runesF s (s.size + 1) 0
theorem runesF_of {s : ByteArray} : ∀ {f p : Nat}, takenF s f p = true → s.size < p + f → p ≤ s.size → Chars (runesF s f p) ∧ encL (runesF s f p) = s.data.toList.drop p
  | 0, p, _, h1, h2 => by omega
  | f + 1, p, h, h1, h2 => by
    unfold runesF
    by_cases hp : s.size ≤ p
    · rw [if_pos hp]
      exact ⟨fun r hr => absurd hr (by simp), (List.drop_eq_nil_of_le (show s.size ≤ p from hp)).symm⟩
    · have hp : p < s.size := by omega
      have hc : rChar (rn s p) = true := by
        unfold takenF at h
        rw [if_neg (by omega)] at h
        split at h
        · assumption
        · cases h
      rw [takenF_go hp hc] at h
      have hwp := wd_pos s p hp
      obtain ⟨i1, i2⟩ := runesF_of h (by omega) (wd_in s p hp)
      rw [if_neg (by omega)]
      refine ⟨fun r hr => ?_, ?_⟩
      · rcases List.mem_cons.1 hr with rfl | hr
        · exact hc
        · exact i1 r hr
      · show Lib.encodeRune (rn s p) ++ encL _ = _
        rw [i2, enc_form hp (rChar_pos hc), ← sub_split]
theorem takenE_X {s : ByteArray} (h : takenE s = 0) : takenX s = true := by
  unfold takenE at h
  split at h
  · omega
  · split at h
    · assumption
    · omega
theorem runes_of {s : ByteArray} (h : takenE s = 0) : Chars (runes s) ∧ encL (runes s) = s.data.toList := by
  have := runesF_of (takenE_X h) (by omega) (Nat.zero_le _)
  rw [List.drop_zero] at this
  exact this
/-- Taken texts put together. -/
theorem taken_append {a b : ByteArray} (ha : takenE a = 0) (hb : takenE b = 0) : takenE (a ++ b) = 0 := by
  obtain ⟨c1, e1⟩ := runes_of ha
  obtain ⟨c2, e2⟩ := runes_of hb
  have : a ++ b = ⟨(encL (runes a ++ runes b)).toArray⟩ := by
    apply ByteArray.ext
    apply Array.ext'
    rw [ByteArray.data_append, Array.toList_append]
    show _ = encL (runes a ++ runes b)
    unfold encL at *
    rw [List.flatMap_append, e1, e2]
  rw [this]
  exact chars_taken fun r hr => by
    rcases List.mem_append.1 hr with hr | hr
    · exact c1 r hr
    · exact c2 r hr
theorem taken_nil : takenE ⟨#[]⟩ = 0 := by kernel_rfl
/-- A text that XML takes has whole runes. -/
theorem taken_brk {s : ByteArray} (h : takenX s = true) : brk s 0 = -1 := by
  have hr := runesF_of h (by omega) (Nat.zero_le _)
  rw [List.drop_zero] at hr
  have hs : s = ⟨(encL (runesF s (s.size + 1) 0)).toArray⟩ := by rw [hr.2, mk_list]
  have hA : At s 0 (encL (runesF s (s.size + 1) 0)) := by rw [hr.2]; have := At.self s.data.toList; rw [mk_list] at this; exact this
  have hz : 0 + (encL (runesF s (s.size + 1) 0)).length = s.size := by rw [hr.2, Nat.zero_add]; rfl
  exact (chars_run (f := 0) hr.1 hA hz).2
theorem takenE_of {s : ByteArray} (h : takenX s = true) : takenE s = 0 := by
  unfold takenE
  rw [taken_brk h, if_neg (by decide), if_pos h]
theorem numX_chr {d : ByteArray} {r : Int} (h : numX d = some r) : rChar r = true := by
  have key : ∀ d b m, numB d b m = some r → rChar r = true := fun d b m hb => by
    unfold numB at hb
    split at hb
    · cases hb
    · cases hq : numF d b d.size 0 0 with
      | none => rw [hq] at hb; cases hb
      | some y =>
        rw [hq] at hb
        simp only at hb
        split at hb
        · injection hb with hb
          subst hb
          assumption
        · cases hb
  unfold numX at h
  split at h
  · exact key _ _ _ h
  · exact key _ _ _ h
theorem refT_chr {t : ByteArray} {r : Int} {n : Nat} (h : refT t = some (r, n)) : rChar r = true := by
  unfold refT at h
  cases hs : semi t 1 with
  | none => rw [hs] at h; cases h
  | some e =>
    rw [hs] at h
    simp only at h
    cases hf : fiveX (t.extract 1 e) with
    | some x =>
      rw [hf] at h
      simp only [Option.some.injEq, Prod.mk.injEq] at h
      obtain ⟨rfl, _⟩ := h
      rcases five_cases hf with ⟨_, rfl⟩ | ⟨_, rfl⟩ | ⟨_, rfl⟩ | ⟨_, rfl⟩ | ⟨_, rfl⟩ <;> decide
    | none =>
      rw [hf] at h
      simp only at h
      split at h
      · cases hn : numX (t.extract 2 e) with
        | none => rw [hn] at h; cases h
        | some x =>
          rw [hn] at h
          simp only [Option.some.injEq, Prod.mk.injEq] at h
          obtain ⟨rfl, _⟩ := h
          exact numX_chr hn
      · cases h
/-- A piece is taken, and says something. -/
theorem piece_taken {s : ByteArray} {p q : Nat} {b : ByteArray} (h : pieceX s p = .ok q b) (hp : p < s.size) : takenE b = 0 ∧ b.size ≠ 0 ∧ p < q := by
  have one : ∀ r : Int, rChar r = true → takenE (encB r) = 0 ∧ (encB r).size ≠ 0 := fun r hr => by
    have he : encB r = ⟨(encL [r]).toArray⟩ := by unfold encB encL; simp
    refine ⟨by rw [he]; exact chars_taken (by intro x hx; rw [List.mem_singleton.1 hx]; exact hr), ?_⟩
    show (Lib.encodeRune r).length ≠ 0
    unfold Lib.encodeRune
    rw [List.length_map]
    have := (Lib.encodeRuneZ_length r).1
    omega
  unfold pieceX at h
  split at h
  · cases hr : refX s p with
    | none => rw [hr] at h; cases h
    | some x =>
      obtain ⟨r, n⟩ := x
      rw [hr] at h
      simp only [Xr.ok.injEq] at h
      obtain ⟨rfl, rfl⟩ := h
      obtain ⟨h1, h2⟩ := one r (refT_chr hr)
      refine ⟨h1, h2, ?_⟩
      have := hr
      unfold refX refT at this
      cases hs : semi (s.extract p s.size) 1 with
      | none => rw [hs] at this; cases this
      | some e =>
        rw [hs] at this
        simp only at this
        cases hf : fiveX ((s.extract p s.size).extract 1 e) with
        | some x => rw [hf] at this; simp only [Option.some.injEq, Prod.mk.injEq] at this; omega
        | none =>
          rw [hf] at this
          simp only at this
          split at this
          · cases hn : numX ((s.extract p s.size).extract 2 e) with
            | none => rw [hn] at this; cases this
            | some x => rw [hn] at this; simp only [Option.some.injEq, Prod.mk.injEq] at this; omega
          · cases this
  · split at h
    · rename_i hc
      simp only [Xr.ok.injEq] at h
      obtain ⟨rfl, rfl⟩ := h
      have hin := wd_in s p hp
      have hwp := wd_pos s p hp
      have he : s.extract p (p + wd s p) = encB (rn s p) := by
        unfold encB
        rw [enc_form hp (rChar_pos hc)]
        have hA : At s p (sub s p (wd s p)) := fun k hk => by
          rw [sub_len hin] at hk
          exact ⟨by omega, (sub_at hin hk (by rw [sub_len hin]; exact hk)).symm⟩
        have := hA.extract
        rw [sub_len hin] at this
        exact this
      rw [he]
      obtain ⟨h1, h2⟩ := one _ hc
      exact ⟨h1, h2, by omega⟩
    · cases h
end Go.Proofs.YtnmpbphnfiiafaaGreatDoor
