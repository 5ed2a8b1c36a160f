/-
  A part of XML, plain: a text that XML takes is runes, one after the other.
  A part of XML, plain: what Print writes, token for token.
  A part of XML, plain: the tokens of a file are one in the other, at places that rise.
  A part of XML, plain: what Print has written is read as the same tokens.
  A part of XML, plain: what is wrong with a file is told with a place within it.
-/
import Derived.Test.YtdipbfchlopeaaaGreatDoorXnL
import Derived.Test.YtdipbfchlopeaaaGreatDoorXnK
import Derived.Test.YtdipbfchlopeaaaGreatDoorXnH
namespace Go.Proofs.YtdipbfchlopeaaaGreatDoor
section
open Go.RowKit Go.PlainAid

theorem byte_of {x : Int} (h0 : 0 ≤ x) (h1 : x < 256) : ((x.toNat.toUInt8).toNat : Int) = x := by
  have : x.toNat.toUInt8.toNat = x.toNat := by
    show (UInt8.ofNat x.toNat).toNat = x.toNat
    rw [UInt8.toNat_ofNat']
    omega
  rw [this]
  omega
/-- A rune, as it stands. -/
theorem enc_at {r : Int} (h : rChar r = true) {t : ByteArray} {P : Nat} (hA : At t P (Lib.encodeRune r)) : P < t.size ∧ rn t P = r ∧ wd t P = (Lib.encodeRune r).length := by
  unfold rChar at h
  simp only [decide_eq_true_eq] at h
  have hw := formS_wd t P
  unfold rn
  unfold Lib.encodeRune at hA ⊢
  by_cases h1 : r ≤ 127
  · rw [Lib.encodeRuneZ_one (by omega) h1] at hA ⊢
    obtain ⟨a0, a1⟩ := hA.head
    rw [byte_of (by omega) (by omega)] at a1
    have hf : formS t P = (r, 1) := by unfold formS formI; rw [a1, if_pos (by omega)]
    rw [hf] at hw ⊢
    exact ⟨a0, rfl, by simp at hw ⊢; omega⟩
  by_cases h2 : r ≤ 2047
  · rw [Lib.encodeRuneZ_two (by omega) h2] at hA ⊢
    have a0 := hA 0 (by simp)
    have a1 := hA 1 (by simp)
    simp only [List.map_cons, List.map_nil, List.getElem_cons_zero, List.getElem_cons_succ, Nat.add_zero] at a0 a1
    rw [byte_of (by omega) (by omega)] at a0 a1
    have hf : formS t P = (r, 2) := by
      unfold formS formI
      rw [a0.2, a1.2, if_neg (by omega), if_pos (by omega), if_pos (by omega)]
      congr 1
      omega
    rw [hf] at hw ⊢
    exact ⟨a0.1, rfl, by simp at hw ⊢; omega⟩
  by_cases h3 : r ≤ 65535
  · rw [Lib.encodeRuneZ_three (by omega)] at hA ⊢
    have a0 := hA 0 (by simp)
    have a1 := hA 1 (by simp)
    have a2 := hA 2 (by simp)
    simp only [List.map_cons, List.map_nil, List.getElem_cons_zero, List.getElem_cons_succ, Nat.add_zero] at a0 a1 a2
    rw [byte_of (by omega) (by omega)] at a0 a1 a2
    have hf : formS t P = (r, 3) := by
      unfold formS formI
      rw [a0.2, a1.2, a2.2, if_neg (by omega), if_neg (by omega), if_pos (by omega), if_pos (by omega)]
      congr 1
      omega
    rw [hf] at hw ⊢
    exact ⟨a0.1, rfl, by simp at hw ⊢; omega⟩
  · rw [Lib.encodeRuneZ_four (by omega) (by omega)] at hA ⊢
    have a0 := hA 0 (by simp)
    have a1 := hA 1 (by simp)
    have a2 := hA 2 (by simp)
    have a3 := hA 3 (by simp)
    simp only [List.map_cons, List.map_nil, List.getElem_cons_zero, List.getElem_cons_succ, Nat.add_zero] at a0 a1 a2 a3
    rw [byte_of (by omega) (by omega)] at a0 a1 a2 a3
    have hf : formS t P = (r, 4) := by
      unfold formS formI
      rw [a0.2, a1.2, a2.2, a3.2, if_neg (by omega), if_neg (by omega), if_neg (by omega), if_pos (by omega), if_pos (by omega)]
      congr 1
      omega
    rw [hf] at hw ⊢
    exact ⟨a0.1, rfl, by simp at hw ⊢; omega⟩
theorem list_bts {s : ByteArray} {p : Nat} {l : List Int} (hin : p + l.length ≤ s.size) (h : ∀ k (hk : k < l.length), l[k] = bt s (p + k)) : (l.map fun x => x.toNat.toUInt8) = sub s p l.length := by
  have hl := sub_len hin
  apply List.ext_getElem
  · rw [List.length_map, hl]
  · intro k h1 h2
    rw [List.length_map] at h1
    rw [List.getElem_map]
    have hs := sub_at hin h1 h2
    have hx := h k h1
    have hb : 0 ≤ bt s (p + k) := bt_nonneg s _
    apply UInt8.toNat_inj.1
    have h256 : ((sub s p l.length)[k].toNat : Int) < 256 := by have := UInt8.toNat_lt (sub s p l.length)[k]; omega
    have := byte_of (x := l[k]) (by omega) (by omega)
    omega
/-- What stands there is its rune's form. -/
theorem enc_form {s : ByteArray} {p : Nat} (hp : p < s.size) (hr : ¬ rn s p < 0) : Lib.encodeRune (rn s p) = sub s p (wd s p) := by
  have hin := wd_in s p hp
  have hw := formS_wd s p
  have b0 := bt_nonneg s p
  unfold rn at hr ⊢
  unfold formS at hr hw ⊢
  unfold formI at hr hw ⊢
  unfold Lib.encodeRune
  split at hr
  · rename_i c1
    rw [if_pos c1] at hw ⊢
    simp only at hw ⊢
    rw [Lib.encodeRuneZ_one b0 (by omega)]
    have e : wd s p = 1 := by omega
    rw [e]
    exact list_bts (l := [bt s p]) (show p + 1 ≤ s.size by omega) (fun k hk => by
      obtain rfl : k = 0 := by simp at hk; omega
      rfl)
  rename_i c1
  rw [if_neg c1] at hw ⊢
  split at hr
  · rename_i c2
    rw [if_pos c2] at hw ⊢
    split at hr
    · rename_i d
      rw [if_pos d] at hw ⊢
      simp only at hw ⊢
      have e : wd s p = 2 := by omega
      rw [e] at hin ⊢
      rw [Lib.encodeRuneZ_two (by omega) (by omega)]
      exact list_bts (l := [_, _]) hin (fun k hk => by
        have : k = 0 ∨ k = 1 := by simp at hk; omega
        rcases this with rfl | rfl
        · show 192 + _ = bt s p
          omega
        · show 128 + _ = bt s (p + 1)
          omega)
    · exact absurd (show (-1 : Int) < 0 by decide) hr
  rename_i c2
  rw [if_neg c2] at hw ⊢
  split at hr
  · rename_i c3
    rw [if_pos c3] at hw ⊢
    split at hr
    · rename_i d
      rw [if_pos d] at hw ⊢
      simp only at hw ⊢
      have e : wd s p = 3 := by omega
      rw [e] at hin ⊢
      rw [Lib.encodeRuneZ_three (by omega)]
      exact list_bts (l := [_, _, _]) hin (fun k hk => by
        have : k = 0 ∨ k = 1 ∨ k = 2 := by simp at hk; omega
        rcases this with rfl | rfl | rfl
        · show 224 + _ = bt s p
          omega
        · show 128 + _ = bt s (p + 1)
          omega
        · show 128 + _ = bt s (p + 2)
          omega)
    · exact absurd (show (-1 : Int) < 0 by decide) hr
  rename_i c3
  rw [if_neg c3] at hw ⊢
  split at hr
  · rename_i c4
    rw [if_pos c4] at hw ⊢
    split at hr
    · rename_i d
      rw [if_pos d] at hw ⊢
      simp only at hw ⊢
      have e : wd s p = 4 := by omega
      rw [e] at hin ⊢
      rw [Lib.encodeRuneZ_four (by omega) (by omega)]
      exact list_bts (l := [_, _, _, _]) hin (fun k hk => by
        have : k = 0 ∨ k = 1 ∨ k = 2 ∨ k = 3 := by simp at hk; omega
        rcases this with rfl | rfl | rfl | rfl
        · show 240 + _ = bt s p
          omega
        · show 128 + _ = bt s (p + 1)
          omega
        · show 128 + _ = bt s (p + 2)
          omega
        · show 128 + _ = bt s (p + 3)
          omega)
    · exact absurd (show (-1 : Int) < 0 by decide) hr
  · exact absurd (show (-1 : Int) < 0 by decide) hr
/-- The bytes of runes. -/
def encL (L : List Int) : List UInt8 := L.flatMap Lib.encodeRune
/-- Runes that XML takes. -/
def Chars (L : List Int) : Prop := ∀ r ∈ L, rChar r = true
theorem rChar_pos {r : Int} (h : rChar r = true) : ¬ r < 0 := by
  unfold rChar at h
  simp only [decide_eq_true_eq] at h
  omega
theorem chars_run {t : ByteArray} : ∀ {L : List Int} {P f : Nat}, Chars L → At t P (encL L) → P + (encL L).length = t.size → takenF t f P = true ∧ brk t P = -1
  | [], P, f, _, _, hz => by
    have : t.size ≤ P := by simpa [encL] using (Nat.le_of_eq hz.symm)
    refine ⟨?_, brk_end t P this⟩
    cases f with
    | zero => rfl
    | succ f => exact takenF_end this
  | r :: L, P, f, h, hA, hz => by
    have hA' : At t P (Lib.encodeRune r ++ encL L) := hA
    obtain ⟨h1, h2, h3⟩ := enc_at (h r (by simp)) hA'.left
    have hz' : P + ((Lib.encodeRune r).length + (encL L).length) = t.size := by rw [← List.length_append]; exact hz
    obtain ⟨i1, i2⟩ := chars_run (L := L) (P := P + (Lib.encodeRune r).length) (f := f - 1) (fun x hx => h x (by simp [hx])) hA'.right (by omega)
    have hr := h r (by simp)
    refine ⟨?_, ?_⟩
    · cases f with
      | zero => rfl
      | succ f => rw [takenF_go h1 (by rw [h2]; exact hr), h3]; exact i1
    · rw [brk_char h1 (by rw [h2]; exact rChar_pos hr), h3, i2]
theorem chars_taken {L : List Int} (h : Chars L) : takenE ⟨(encL L).toArray⟩ = 0 := by
  obtain ⟨t, ht⟩ : ∃ t : ByteArray, (⟨(encL L).toArray⟩ : ByteArray) = t := ⟨_, rfl⟩
  have hA : At t 0 (encL L) := by rw [← ht]; exact At.self _
  have hz : 0 + (encL L).length = t.size := by rw [← ht, Nat.zero_add]; rfl
  rw [ht]
  obtain ⟨h1, h2⟩ := chars_run (f := t.size + 1) h hA hz
  unfold takenE takenX
  rw [h2, if_neg (by decide), if_pos h1]
/-- The runes of a text. -/
def runesF (s : ByteArray) : Nat → Nat → List Int
  | 0, _ => []
  | f + 1, p => if s.size ≤ p then [] else rn s p :: runesF s f (p + wd s p)
def runes (s : ByteArray) : List Int := runesF s (s.size + 1) 0
theorem runesF_of {s : ByteArray} : ∀ {f p : Nat}, takenF s f p = true → s.size < p + f → p ≤ s.size → Chars (runesF s f p) ∧ encL (runesF s f p) = s.data.toList.drop p
  | 0, p, _, h1, h2 => by omega
  | f + 1, p, h, h1, h2 => by
    unfold runesF
    by_cases hp : s.size ≤ p
    · rw [if_pos hp]
      exact ⟨fun r hr => absurd hr (by simp), (List.drop_eq_nil_of_le (show s.size ≤ p from hp)).symm⟩
    · have hp : p < s.size := by omega
      have hc : rChar (rn s p) = true := by
        unfold takenF at h
        rw [if_neg (by omega)] at h
        split at h
        · assumption
        · cases h
      rw [takenF_go hp hc] at h
      have hwp := wd_pos s p hp
      obtain ⟨i1, i2⟩ := runesF_of h (by omega) (wd_in s p hp)
      rw [if_neg (by omega)]
      refine ⟨fun r hr => ?_, ?_⟩
      · rcases List.mem_cons.1 hr with rfl | hr
        · exact hc
        · exact i1 r hr
      · show Lib.encodeRune (rn s p) ++ encL _ = _
        rw [i2, enc_form hp (rChar_pos hc), ← sub_split]
theorem takenE_X {s : ByteArray} (h : takenE s = 0) : takenX s = true := by
  unfold takenE at h
  split at h
  · omega
  · split at h
    · assumption
    · omega
theorem runes_of {s : ByteArray} (h : takenE s = 0) : Chars (runes s) ∧ encL (runes s) = s.data.toList := by
  have := runesF_of (takenE_X h) (by omega) (Nat.zero_le _)
  rw [List.drop_zero] at this
  exact this
/-- Taken texts put together. -/
theorem taken_append {a b : ByteArray} (ha : takenE a = 0) (hb : takenE b = 0) : takenE (a ++ b) = 0 := by
  obtain ⟨c1, e1⟩ := runes_of ha
  obtain ⟨c2, e2⟩ := runes_of hb
  have : a ++ b = ⟨(encL (runes a ++ runes b)).toArray⟩ := by
    apply ByteArray.ext
    apply Array.ext'
    rw [ByteArray.data_append, Array.toList_append]
    show _ = encL (runes a ++ runes b)
    unfold encL at *
    rw [List.flatMap_append, e1, e2]
  rw [this]
  exact chars_taken fun r hr => by
    rcases List.mem_append.1 hr with hr | hr
    · exact c1 r hr
    · exact c2 r hr
theorem taken_nil : takenE ⟨#[]⟩ = 0 := by kernel_rfl
/-- A text that XML takes has whole runes. -/
theorem taken_brk {s : ByteArray} (h : takenX s = true) : brk s 0 = -1 := by
  have hr := runesF_of h (by omega) (Nat.zero_le _)
  rw [List.drop_zero] at hr
  have hs : s = ⟨(encL (runesF s (s.size + 1) 0)).toArray⟩ := by rw [hr.2, mk_list]
  have hA : At s 0 (encL (runesF s (s.size + 1) 0)) := by rw [hr.2]; have := At.self s.data.toList; rw [mk_list] at this; exact this
  have hz : 0 + (encL (runesF s (s.size + 1) 0)).length = s.size := by rw [hr.2, Nat.zero_add]; rfl
  exact (chars_run (f := 0) hr.1 hA hz).2
theorem takenE_of {s : ByteArray} (h : takenX s = true) : takenE s = 0 := by
  unfold takenE
  rw [taken_brk h, if_neg (by decide), if_pos h]
theorem numX_chr {d : ByteArray} {r : Int} (h : numX d = some r) : rChar r = true := by
  have key : ∀ d b m, numB d b m = some r → rChar r = true := fun d b m hb => by
    unfold numB at hb
    split at hb
    · cases hb
    · cases hq : numF d b d.size 0 0 with
      | none => rw [hq] at hb; cases hb
      | some y =>
        rw [hq] at hb
        simp only at hb
        split at hb
        · injection hb with hb
          subst hb
          assumption
        · cases hb
  unfold numX at h
  split at h
  · exact key _ _ _ h
  · exact key _ _ _ h
theorem refT_chr {t : ByteArray} {r : Int} {n : Nat} (h : refT t = some (r, n)) : rChar r = true := by
  unfold refT at h
  cases hs : semi t 1 with
  | none => rw [hs] at h; cases h
  | some e =>
    rw [hs] at h
    simp only at h
    cases hf : fiveX (t.extract 1 e) with
    | some x =>
      rw [hf] at h
      simp only [Option.some.injEq, Prod.mk.injEq] at h
      obtain ⟨rfl, _⟩ := h
      rcases five_cases hf with ⟨_, rfl⟩ | ⟨_, rfl⟩ | ⟨_, rfl⟩ | ⟨_, rfl⟩ | ⟨_, rfl⟩ <;> decide
    | none =>
      rw [hf] at h
      simp only at h
      split at h
      · cases hn : numX (t.extract 2 e) with
        | none => rw [hn] at h; cases h
        | some x =>
          rw [hn] at h
          simp only [Option.some.injEq, Prod.mk.injEq] at h
          obtain ⟨rfl, _⟩ := h
          exact numX_chr hn
      · cases h
/-- A piece is taken, and says something. -/
theorem piece_taken {s : ByteArray} {p q : Nat} {b : ByteArray} (h : pieceX s p = .ok q b) (hp : p < s.size) : takenE b = 0 ∧ b.size ≠ 0 ∧ p < q := by
  have one : ∀ r : Int, rChar r = true → takenE (encB r) = 0 ∧ (encB r).size ≠ 0 := fun r hr => by
    have he : encB r = ⟨(encL [r]).toArray⟩ := by unfold encB encL; simp
    refine ⟨by rw [he]; exact chars_taken (by intro x hx; rw [List.mem_singleton.1 hx]; exact hr), ?_⟩
    show (Lib.encodeRune r).length ≠ 0
    unfold Lib.encodeRune
    rw [List.length_map]
    have := (Lib.encodeRuneZ_length r).1
    omega
  unfold pieceX at h
  split at h
  · cases hr : refX s p with
    | none => rw [hr] at h; cases h
    | some x =>
      obtain ⟨r, n⟩ := x
      rw [hr] at h
      simp only [Xr.ok.injEq] at h
      obtain ⟨rfl, rfl⟩ := h
      obtain ⟨h1, h2⟩ := one r (refT_chr hr)
      refine ⟨h1, h2, ?_⟩
      have := hr
      unfold refX refT at this
      cases hs : semi (s.extract p s.size) 1 with
      | none => rw [hs] at this; cases this
      | some e =>
        rw [hs] at this
        simp only at this
        cases hf : fiveX ((s.extract p s.size).extract 1 e) with
        | some x => rw [hf] at this; simp only [Option.some.injEq, Prod.mk.injEq] at this; omega
        | none =>
          rw [hf] at this
          simp only at this
          split at this
          · cases hn : numX ((s.extract p s.size).extract 2 e) with
            | none => rw [hn] at this; cases this
            | some x => rw [hn] at this; simp only [Option.some.injEq, Prod.mk.injEq] at this; omega
          · cases this
  · split at h
    · rename_i hc
      simp only [Xr.ok.injEq] at h
      obtain ⟨rfl, rfl⟩ := h
      have hin := wd_in s p hp
      have hwp := wd_pos s p hp
      have he : s.extract p (p + wd s p) = encB (rn s p) := by
        unfold encB
        rw [enc_form hp (rChar_pos hc)]
        have hA : At s p (sub s p (wd s p)) := fun k hk => by
          rw [sub_len hin] at hk
          exact ⟨by omega, (sub_at hin hk (by rw [sub_len hin]; exact hk)).symm⟩
        have := hA.extract
        rw [sub_len hin] at this
        exact this
      rw [he]
      obtain ⟨h1, h2⟩ := one _ hc
      exact ⟨h1, h2, by omega⟩
    · cases h
end

section
open Go.RowKit Go.PlainAid

/-- How Print writes. -/
def D0 : Dr := ⟨34, fun v => (escT v).data.toList, [], [], false⟩
theorem attrsOk_snoc (a : At2) : ∀ (l m : List At2), attrsOk m (l ++ [a]) = (attrsOk m l && (attrOk a && !((m ++ l).any fun b => decide (b.1 = a.1))))
  | [], m => by
    simp only [List.nil_append, List.append_nil]
    unfold attrsOk attrsOk
    rw [Bool.and_true, Bool.true_and]
  | b :: l, m => by
    rw [List.cons_append]
    unfold attrsOk
    rw [attrsOk_snoc a l (m ++ [b])]
    simp only [List.append_assoc, List.singleton_append, Bool.and_assoc]
theorem attrsOk_pre : ∀ {l m : List At2} {k : Nat}, attrsOk m l = true → attrsOk m (l.take k) = true
  | [], m, k, h => by simpa using h
  | b :: l, m, 0, _ => rfl
  | b :: l, m, k + 1, h => by
    unfold attrsOk at h
    simp only [Bool.and_eq_true] at h
    rw [List.take_succ_cons]
    unfold attrsOk
    rw [h.1.1, h.1.2, attrsOk_pre h.2]
    rfl
theorem take_snoc {α : Type} {l : List α} {i : Nat} (h : i < l.length) : l.take (i + 1) = l.take i ++ [l[i]] := by simp
/-- One attribute more. -/
theorem attrsOk_step {l : List At2} {i : Nat} (h : i < l.length) (hok : attrsOk [] (l.take i) = true) : attrsOk [] (l.take (i + 1)) = (attrOk l[i] && !((l.take i).any fun b => decide (b.1 = l[i].1))) := by
  rw [take_snoc h, attrsOk_snoc, hok, List.nil_append, Bool.true_and]
theorem attrsOk_no {l : List At2} {i : Nat} (h : attrsOk [] (l.take i) = false) : attrsOk [] l = false := by
  cases hh : attrsOk [] l with
  | false => rfl
  | true => rw [attrsOk_pre hh] at h; cases h
theorem attrsLong_snoc (l : List At2) (a : At2) : attrsLong (l ++ [a]) = (attrsLong l || (decide (64 < a.1.size) || decide (4096 < a.2.size))) := by
  unfold attrsLong
  simp
theorem attrsD_snoc (D : Dr) (a : At2) : ∀ l : List At2, attrsD D (l ++ [a]) = attrsD D l ++ attrD D a
  | [] => by simp [attrsD]
  | b :: l => by simp [attrsD, attrsD_snoc D a l]
/-- What a token is written as. -/
def tkD (t : Tk) : List UInt8 :=
  if t.kind = 1 then 60 :: (t.name.data.toList ++ (attrsD D0 t.attrs ++ [62])) else if t.kind = 2 then [60, 47] ++ (t.name.data.toList ++ [62]) else (escT t.text).data.toList
theorem body_cons (t : Tk) (l : List Tk) : bodyD D0 false (t :: l) = tkD t ++ bodyD D0 false l := by
  show (if t.kind = 1 then _ else _) = _
  unfold tkD
  split
  · show 60 :: (_ ++ (_ ++ ([] ++ (if (false && nextEnd l) = true then _ else [62] ++ ([] ++ bodyD D0 false l))))) = _
    simp
  · split
    · show [] ++ ([60, 47] ++ (_ ++ ([] ++ ([62] ++ _)))) = _
      simp
    · rfl
def tksD (l : List Tk) : List UInt8 := l.flatMap tkD
theorem body_flat : ∀ l : List Tk, bodyD D0 false l = tksD l
  | [] => rfl
  | t :: l => by rw [body_cons, body_flat l]; rfl
/-- What Print answers. -/
def prE (l : List Tk) : Int := if tksMay [] 0 l = true then (if tksLong [] l = true ∨ 262144 < (tksD l).length then 3 else 0) else 2
def prB (l : List Tk) : ByteArray := if prE l = 0 then ⟨(tksD l).toArray⟩ else ⟨#[]⟩
def tksPile : List ByteArray → List Tk → List ByteArray
  | p, [] => p
  | p, t :: l => tksPile (tkPile p t) l
theorem escT_len (s : ByteArray) : (escT s).size ≤ 6 * s.size := by
  unfold escT
  split
  · show (s.data.toList.flatMap escC).length ≤ 6 * s.data.toList.length
    have := (escN_ge s.data.toList).2
    unfold escN at this
    exact this
  · exact Nat.zero_le _
theorem attrsD_len : ∀ l : List At2, (attrsD D0 l).length ≤ 6 * wtL wtAt l
  | [] => Nat.zero_le _
  | a :: l => by
    have h1 := attrsD_len l
    have h2 := escT_len a.2
    have h3 : (attrD D0 a).length = a.1.size + (escT a.2).size + 4 := by
      show (32 :: ([] ++ (a.1.data.toList ++ ([61, 34] ++ ((escT a.2).data.toList ++ [34]))))).length = _
      simp only [List.length_cons, List.length_append, List.length_nil, List.nil_append]
      show a.1.size + (2 + ((escT a.2).size + 1)) + 1 = _
      omega
    simp only [attrsD, wtL, wtAt, List.length_append]
    omega
/-- How much a token holds. -/
def wtT (t : Tk) : Nat := t.name.size + t.text.size + wtL wtAt t.attrs + 3
theorem tkD_len (t : Tk) : (tkD t).length ≤ 6 * wtT t := by
  have h1 := attrsD_len t.attrs
  have h2 := escT_len t.text
  have h3 := size_list t.name
  have h4 := size_list (escT t.text)
  unfold tkD wtT
  split
  · simp only [List.length_cons, List.length_append, List.length_nil]; omega
  · split
    · simp only [List.length_cons, List.length_append, List.length_nil]; omega
    · omega
theorem tksD_len : ∀ l : List Tk, (tksD l).length ≤ 6 * wtL wtT l
  | [] => Nat.zero_le _
  | t :: l => by
    have h1 := tksD_len l
    have h2 := tkD_len t
    have e : tksD (t :: l) = tkD t ++ tksD l := by unfold tksD; rw [List.flatMap_cons]
    rw [e, List.length_append]
    simp only [wtL]
    omega
theorem wtL_all {α : Type} {f : α → Nat} {k : Nat} : ∀ {l : List α}, (∀ x ∈ l, f x ≤ k) → wtL f l ≤ k * l.length
  | [], _ => Nat.zero_le _
  | x :: l, h => by
    have h1 := h x (by simp)
    have h2 := wtL_all (l := l) fun y hy => h y (by simp [hy])
    simp only [wtL, List.length_cons, Nat.mul_add, Nat.mul_one]
    omega
theorem wtL_take {α : Type} (f : α → Nat) : ∀ (l : List α) (k : Nat), wtL f (l.take k) ≤ wtL f l
  | [], k => by simp
  | x :: l, 0 => by simp [wtL]
  | x :: l, k + 1 => by
    have := wtL_take f l k
    simp only [List.take_succ_cons, wtL]
    omega
end

section
open Go.RowKit Go.PlainAid

/-- Places that rise, within a file. -/
def Rises (s : ByteArray) : Nat → List Tk → Prop
  | _, [] => True
  | k, t :: l => k ≤ t.at_ ∧ t.at_ < s.size ∧ (t.kind = 1 → bt s t.at_ = 60) ∧ Rises s t.at_ l
theorem Rises.mono {s : ByteArray} : ∀ {l : List Tk} {a b : Nat}, Rises s b l → a ≤ b → Rises s a l
  | [], _, _, _, _ => trivial
  | _ :: _, _, _, h, hab => ⟨Nat.le_trans hab h.1, h.2⟩
theorem nmF_bytes {s : ByteArray} : ∀ {f p k : Nat}, p ≤ k → k < nmF s f p → bByte (bt s k) = true
  | 0, p, k, h1, h2 => by simp only [nmF] at h2; omega
  | f + 1, p, k, h1, h2 => by
    unfold nmF at h2
    split at h2
    · by_cases e : k = p
      · rw [e]; assumption
      · exact nmF_bytes (by omega) h2
    · omega
theorem bt_cut {s : ByteArray} {p q k : Nat} (hq : q ≤ s.size) (hk : p + k < q) : bt (s.extract p q) k = bt s (p + k) := by
  unfold bt
  rw [dif_pos (by simp; omega), dif_pos (by omega)]
  simp [ByteArray.getElem_extract]
/-- A name that was read is a name. -/
theorem nameX_is {s : ByteArray} {p q : Nat} {nm : ByteArray} (h : nameX s p = .ok q nm) (hp : p ≤ s.size) : nameB nm = true ∧ nm.size ≤ 64 := by
  have hin := nameX_in h hp
  unfold nameX at h
  split at h
  · rename_i hs
    split at h
    · cases h
    · injection h with h1 h2
      subst h1 h2
      have hz : (s.extract p (nmE s p)).size = nmE s p - p := by simp; omega
      refine ⟨?_, by omega⟩
      unfold nameB
      rw [allB_true, decide_eq_true (by omega), bt_cut hin.2 (by omega), Nat.add_zero, hs]
      · rfl
      · intro k hk
        rw [hz] at hk
        rw [bt_cut hin.2 (by omega)]
        exact nmF_bytes (f := s.size - p) (by omega) (show p + k < nmE s p by omega)
  · cases h
theorem valF_taken {s : ByteArray} {q : Int} : ∀ {f p r : Nat} {acc v : ByteArray}, valF s q f p acc = .ok r v → takenE acc = 0 → takenE v = 0
  | 0, p, r, acc, v, h, _ => by simp [valF] at h
  | f + 1, p, r, acc, v, h, ha => by
    unfold valF at h
    split at h
    · injection h with h1 h2
      rw [← h2]; exact ha
    · split at h
      · cases h
      · rename_i hn
        cases hx : pieceX s p with
        | bad e a => rw [hx] at h; cases h
        | ok p' b =>
          rw [hx] at h
          exact valF_taken h (taken_append ha (piece_taken hx (by omega)).1)
theorem valX_taken {s : ByteArray} {p r : Nat} {v : ByteArray} (h : valX s p = .ok r v) : takenE v = 0 := by
  unfold valX at h
  split at h
  · cases hx : valF s (bt s p) (s.size + 1 - p) (p + 1) ⟨#[]⟩ with
    | bad e a => rw [hx] at h; cases h
    | ok p' w =>
      rw [hx] at h
      simp only at h
      split at h
      · cases h
      · injection h with h1 h2
        rw [← h2]; exact valF_taken hx taken_nil
  · cases h
theorem attrX_is {s : ByteArray} {p q : Nat} {l : List At2} {a : At2} (h : attrX s p l = .ok q a) (hp : p ≤ s.size) : attrOk a = true ∧ (l.any fun b => decide (b.1 = a.1)) = false ∧ a.1.size ≤ 64 ∧ a.2.size ≤ 4096 := by
  unfold attrX at h
  cases hn : nameX s p with
  | bad e a => rw [hn] at h; cases h
  | ok q1 nm =>
    rw [hn] at h
    obtain ⟨n1, n2⟩ := nameX_is hn hp
    obtain ⟨h1, h2⟩ := nameX_in hn hp
    simp only at h
    split at h
    · cases h
    · split at h
      · cases h
      · rename_i hnew
        split at h
        · rename_i h61
          have hlt : q1 < s.size := by
            by_cases hp : q1 < s.size
            · exact hp
            · rw [bt_end s (by omega)] at h61; omega
          cases hv : valX s (q1 + 1) with
          | bad e a => rw [hv] at h; cases h
          | ok q2 v =>
            rw [hv] at h
            have h5 := valX_in hv hlt
            have h6 := valX_taken hv
            injection h with h3 h4
            subst h4
            refine ⟨?_, (Bool.not_eq_true _).mp hnew, n2, h5.2.2⟩
            unfold attrOk
            rw [n1, decide_eq_true h6]
            rfl
        · cases h
theorem begF_is {s : ByteArray} : ∀ {f p r : Nat} {l : List At2} {sh : Bool} {l' : List At2}, begF s f p l = .ok r (sh, l') → p ≤ s.size → l.length ≤ 16 → ∃ m, l' = l ++ m ∧ attrsOk l m = true ∧ attrsLong m = false ∧ l'.length ≤ 16
  | 0, p, r, l, sh, l', h, _, _ => by simp [begF] at h
  | f + 1, p, r, l, sh, l', h, hp, hl => by
    have hb2 := blk_le s p hp
    unfold begF at h
    split at h
    · injection h with h1 h2
      injection h2 with h2 h3
      exact ⟨[], by simp [h3], rfl, rfl, by rw [← h3]; exact hl⟩
    · split at h
      · split at h
        · injection h with h1 h2
          injection h2 with h2 h3
          exact ⟨[], by simp [h3], rfl, rfl, by rw [← h3]; exact hl⟩
        · cases h
      · split at h
        · cases h
        · cases ha : attrX s (blk s p) l with
          | bad e a => rw [ha] at h; cases h
          | ok q a =>
            rw [ha] at h
            obtain ⟨h1, h2, h16⟩ := attrX_in ha hb2
            obtain ⟨a1, a2, a3, a4⟩ := attrX_is ha hb2
            obtain ⟨m, e, m1, m2, m3⟩ := begF_is h h2 (by rw [List.length_append, List.length_singleton]; omega)
            refine ⟨a :: m, by rw [e]; simp, ?_, ?_, m3⟩
            · unfold attrsOk
              rw [a1, a2, m1]
              rfl
            · unfold attrsLong at m2 ⊢
              rw [List.any_cons, m2, decide_eq_false (by omega), decide_eq_false (by omega)]
              rfl
theorem begX_is {s : ByteArray} {p n r : Nat} {nm : ByteArray} {sh : Bool} {l : List At2} (h : begX s p n = .ok r (nm, sh, l)) (hp : p < s.size) : nameB nm = true ∧ nm.size ≤ 64 ∧ n ≠ 64 ∧ attrsOk [] l = true ∧ attrsLong l = false ∧ l.length ≤ 16 := by
  unfold begX at h
  cases hn : nameX s (p + 1) with
  | bad e a => rw [hn] at h; cases h
  | ok q nm' =>
    rw [hn] at h
    obtain ⟨n1, n2⟩ := nameX_is hn hp
    obtain ⟨h1, h2⟩ := nameX_in hn hp
    simp only at h
    split at h
    · cases h
    · rename_i h64
      cases hb : begF s (s.size + 1 - q) q [] with
      | bad e a => rw [hb] at h; cases h
      | ok q' x' =>
        rw [hb] at h
        obtain ⟨sh', l'⟩ := x'
        obtain ⟨m, e, m1, m2, m3⟩ := begF_is hb h2 (by simp)
        injection h with h3 h4
        injection h4 with h4 h5
        injection h5 with h5 h6
        subst h4 h5 h6
        rw [List.nil_append] at e
        subst e
        exact ⟨n1, n2, h64, m1, m2, m3⟩
theorem endX_is {s : ByteArray} {p r : Nat} {top x : ByteArray} (h : endX s p top = .ok r x) : x = top := by
  unfold endX at h
  cases hn : nameX s (p + 2) with
  | bad e a => rw [hn] at h; cases h
  | ok q nm =>
    rw [hn] at h
    simp only at h
    split at h
    · rename_i he
      split at h
      · injection h with h3 h4
        rw [← h4, he]
      · cases h
    · cases h
theorem wdAt_first {s : ByteArray} {p : Nat} {b : Int} {l : List Int} (h : wdAt s p (b :: l) = true) : bt s p = b := by
  unfold wdAt at h
  simp only [Bool.and_eq_true, beq_iff_eq] at h
  exact h.1
theorem wdAt_nth {s : ByteArray} : ∀ {l : List Int} {p : Nat}, wdAt s p l = true → ∀ (k : Nat) (b : Int), l[k]? = some b → bt s (p + k) = b
  | [], _, _, _, _, h => by simp at h
  | c :: l, p, h, 0, b, hb => by
    have e : c = b := by simpa using hb
    rw [← e]; exact wdAt_first h
  | c :: l, p, h, k + 1, b, hb => by
    unfold wdAt at h
    rw [Bool.and_eq_true] at h
    have := wdAt_nth h.2 k b (by simpa using hb)
    rw [show p + (k + 1) = p + 1 + k by omega]; exact this
theorem in_of_bt {s : ByteArray} {p : Nat} (h : bt s p ≠ 0) : p < s.size := by
  by_cases hp : p < s.size
  · exact hp
  · rw [bt_end s (by omega)] at h; exact absurd rfl h
theorem no31 : ¬ (3 : Int) = 1 := by decide
theorem no32 : ¬ (3 : Int) = 2 := by decide
theorem no21 : ¬ (2 : Int) = 1 := by decide
/-- What stands ahead of a tag. -/
theorem pend_may {s : ByteArray} {out : List Tk} {pile : List ByteArray} {k : Int} {at_ p : Nat} {text : ByteArray} {fr : Option Nat} {u : Nat} {o2 : List Tk} (hpi : pile ≠ []) (hk : k = 1 ∨ k = 2) (hat : at_ ≤ p) (hfr : ∀ a, fr = some a → at_ ≤ a ∧ a ≤ p ∧ a < s.size ∧ text.size ≠ 0 ∧ takenE text = 0) (h : tellX out text fr = .ok u o2) :
    ∃ k' at', o2 = out ++ pend text fr ∧ k' ≠ 0 ∧ at' ≤ p ∧ (∀ l, Rises s at' l → Rises s at_ (pend text fr ++ l)) ∧ (∀ l, tksMay pile k' l = true → tksMay pile k (pend text fr ++ l) = true) ∧ ∀ l, tksLong pile l = false → tksLong pile (pend text fr ++ l) = false := by
  cases fr with
  | none =>
    unfold tellX at h
    injection h with _ h
    subst h
    exact ⟨k, at_, by simp [pend], by omega, hat, fun l h => h, fun l h => h, fun l h => h⟩
  | some a =>
    obtain ⟨a1, a2, a3, a4, a5⟩ := hfr a rfl
    unfold tellX at h
    simp only at h
    split at h
    · cases h
    · rename_i hz
      injection h with _ h
      subst h
      refine ⟨3, a, rfl, by decide, a2, fun l h => ⟨a1, a3, fun h => absurd h no31, h⟩, fun l h => ?_, fun l h => ?_⟩
      · show (tkMay pile k _ && tksMay (tkPile pile _) 3 l) = true
        have e1 : tkMay pile k ⟨3, ⟨#[]⟩, [], text, a⟩ = true := by
          unfold tkMay
          rw [if_neg no31, if_neg no32, if_pos rfl, decide_eq_true hpi, decide_eq_true (by omega), decide_eq_true a4, decide_eq_true a5]
          rfl
        have e2 : tkPile pile ⟨3, ⟨#[]⟩, [], text, a⟩ = pile := rfl
        rw [e1, e2, h]
        rfl
      · show (tkLong pile _ || tksLong (tkPile pile _) l) = false
        have e1 : tkLong pile ⟨3, ⟨#[]⟩, [], text, a⟩ = false := by
          unfold tkLong
          rw [if_neg no31, if_pos rfl, decide_eq_false (by simpa using hz)]
        have e2 : tkPile pile ⟨3, ⟨#[]⟩, [], text, a⟩ = pile := rfl
        rw [e1, e2, h]
        rfl
/-- Tokens of no great size. -/
def Slims (l : List Tk) : Prop := ∀ t ∈ l, t.name.size ≤ 64 ∧ t.text.size ≤ 4096 ∧ wtL wtAt t.attrs ≤ 100000
theorem Slims.nil : Slims [] := fun t h => absurd h (by simp)
theorem Slims.cons {k : Int} {nm tx : ByteArray} {A : List At2} {p : Nat} {l : List Tk} (h1 : nm.size ≤ 64) (h2 : tx.size ≤ 4096) (h3 : wtL wtAt A ≤ 100000) (h : Slims l) : Slims (⟨k, nm, A, tx, p⟩ :: l) := fun t ht => by
  rcases List.mem_cons.1 ht with rfl | ht
  · exact ⟨h1, h2, h3⟩
  · exact h t ht
theorem Slims.app {l m : List Tk} (h : Slims l) (k : Slims m) : Slims (l ++ m) := fun t ht => by
  rcases List.mem_append.1 ht with ht | ht
  · exact h t ht
  · exact k t ht
theorem slim_pend {out : List Tk} {text : ByteArray} {fr : Option Nat} {u : Nat} {o2 : List Tk} (h : tellX out text fr = .ok u o2) : Slims (pend text fr) := by
  cases fr with
  | none => exact Slims.nil
  | some a =>
    unfold tellX at h
    simp only at h
    split at h
    · cases h
    · exact Slims.cons (show 0 ≤ 64 by decide) (by omega) (show 0 ≤ 100000 by decide) Slims.nil
theorem slim_at {A : List At2} (h : attrsLong A = false) (h16 : A.length ≤ 16) : wtL wtAt A ≤ 100000 := by
  have := wtL_all (f := wtAt) (k := 4163) (l := A) (fun a ha => by
    unfold attrsLong at h
    have h2 := List.any_eq_false.1 h a ha
    simp only [Bool.or_eq_true, decide_eq_true_eq, not_or] at h2
    unfold wtAt
    omega)
  omega
theorem endX_slim {s : ByteArray} {p r : Nat} {top x : ByteArray} (h : endX s p top = .ok r x) (hp : p + 2 ≤ s.size) : x.size ≤ 64 := by
  unfold endX at h
  cases hn : nameX s (p + 2) with
  | bad e a => rw [hn] at h; cases h
  | ok q nm =>
    rw [hn] at h
    have hz := (nameX_is hn hp).2
    simp only at h
    split at h
    · split at h
      · injection h with h3 h4
        rw [← h4]; exact hz
      · cases h
    · cases h
theorem pend_len (text : ByteArray) (fr : Option Nat) : (pend text fr).length ≤ 1 := by cases fr <;> simp [pend]
theorem beg_may {pile : List ByteArray} {k : Int} {nm : ByteArray} {at_ : Nat} {A : List At2} {l : List Tk} (hp : pile ≠ [] ∨ k = 0) (hn : nameB nm = true) (ha : attrsOk [] A = true) (h : tksMay (pile ++ [nm]) 1 l = true) : tksMay pile k (⟨1, nm, A, ⟨#[]⟩, at_⟩ :: l) = true := by
  show (tkMay pile k _ && tksMay (pile ++ [nm]) 1 l) = true
  have e1 : tkMay pile k ⟨1, nm, A, ⟨#[]⟩, at_⟩ = true := by
    unfold tkMay
    rw [if_pos rfl]
    simp only [Bool.and_eq_true, Bool.or_eq_true, decide_eq_true_eq]
    exact ⟨⟨hp, hn⟩, ha⟩
  rw [e1, h]
  rfl
theorem beg_short {pile : List ByteArray} {nm : ByteArray} {at_ : Nat} {A : List At2} {l : List Tk} (hn : nm.size ≤ 64) (ha : attrsLong A = false) (h16 : A.length ≤ 16) (h64 : pile.length ≠ 64) (h : tksLong (pile ++ [nm]) l = false) : tksLong pile (⟨1, nm, A, ⟨#[]⟩, at_⟩ :: l) = false := by
  show (tkLong pile _ || tksLong (pile ++ [nm]) l) = false
  have e1 : tkLong pile ⟨1, nm, A, ⟨#[]⟩, at_⟩ = false := by
    unfold tkLong
    rw [if_pos rfl, ha, decide_eq_false (by simp only; omega), decide_eq_false (by simp only; omega), decide_eq_false h64]
    rfl
  rw [e1, h]
  rfl
theorem end_may {pile : List ByteArray} {k : Int} {nm : ByteArray} {at_ : Nat} {l : List Tk} (hp : pile ≠ []) (hn : pile.getLastD ⟨#[]⟩ = nm) (h : tksMay pile.dropLast 2 l = true) : tksMay pile k (⟨2, nm, [], ⟨#[]⟩, at_⟩ :: l) = true := by
  show (tkMay pile k _ && tksMay pile.dropLast 2 l) = true
  have e1 : tkMay pile k ⟨2, nm, [], ⟨#[]⟩, at_⟩ = true := by
    unfold tkMay
    rw [if_neg no21, if_pos rfl, decide_eq_true hp, decide_eq_true hn]
    rfl
  rw [e1, h]
  rfl
theorem end_short {pile : List ByteArray} {nm : ByteArray} {at_ : Nat} {l : List Tk} (h : tksLong pile.dropLast l = false) : tksLong pile (⟨2, nm, [], ⟨#[]⟩, at_⟩ :: l) = false := h
/-- What an element holds is one in the other. -/
theorem hold_nest {s : ByteArray} : ∀ {f p q : Nat} {out L : List Tk} {pile : List ByteArray} {k : Int} {at_ : Nat} {text : ByteArray} {fr : Option Nat}, holdF s f p out pile text fr = .ok q L → p ≤ s.size → (k = 1 ∨ k = 2) → at_ ≤ p → (∀ a, fr = some a → at_ ≤ a ∧ a ≤ p ∧ a < s.size ∧ text.size ≠ 0 ∧ takenE text = 0) → (fr = none → text = ⟨#[]⟩) →
    ∃ l, L = out ++ l ∧ tksMay pile k l = true ∧ tksLong pile l = false ∧ Rises s at_ l ∧ l.length ≤ s.size - p ∧ Slims l
  | 0, p, q, out, L, pile, k, at_, text, fr, h, _, _, _, _, _ => by simp [holdF] at h
  | f + 1, p, q, out, L, pile, k, at_, text, fr, h, hp, hk, hat, hfr, hno => by
    unfold holdF at h
    split at h
    · rename_i hpi
      injection h with _ h
      refine ⟨[], by simp [h], ?_, rfl, trivial, Nat.zero_le _, Slims.nil⟩
      unfold tksMay
      rw [decide_eq_true hpi, decide_eq_true (by omega)]
      rfl
    · rename_i hpi
      split at h
      · rename_i hc
        cases hx : cmtX s p with
        | bad e a => rw [hx] at h; cases h
        | ok q' u =>
          rw [hx] at h
          obtain ⟨h1, h2⟩ := cmtX_in hx hc hp
          obtain ⟨l, i1, i2, i3, i4, i5, i6⟩ := hold_nest (at_ := at_) h h2 hk (by omega) (fun a ha => by have := hfr a ha; omega) hno
          exact ⟨l, i1, i2, i3, i4, by omega, i6⟩
      · split at h
        · rename_i hw
          have h60 := wdAt_first hw
          have hlt := in_of_bt (s := s) (p := p) (by omega)
          have h47 : bt s (p + 1) = 47 := by
            unfold wdAt at hw
            rw [Bool.and_eq_true] at hw
            exact wdAt_first hw.2
          have hlt2 := in_of_bt (s := s) (p := p + 1) (by omega)
          cases ht : tellX out text fr with
          | bad e a => rw [ht] at h; cases h
          | ok u o2 =>
            rw [ht] at h
            simp only at h
            obtain ⟨k', at', e, p1, p2, p3, p4, p5⟩ := pend_may hpi hk hat hfr ht
            cases hx : endX s p (pile.getLastD ⟨#[]⟩) with
            | bad e a => rw [hx] at h; cases h
            | ok q' nm =>
              rw [hx] at h
              simp only at h
              have hin := endX_in hx (by omega)
              have hnm := endX_is hx
              have hp2 : p + 2 ≤ s.size := by omega
              obtain ⟨l, e2, l1, l2, l3, l4, l5⟩ := hold_nest (k := 2) (at_ := p) h hin.2 (.inr rfl) (by omega) (fun a ha => by cases ha) (fun _ => rfl)
              refine ⟨pend text fr ++ (⟨2, nm, [], ⟨#[]⟩, p⟩ :: l), by rw [e2, e]; simp, p4 _ (end_may hpi hnm.symm l1), p5 _ (end_short l2), p3 _ ⟨p2, hlt, fun h => absurd h no21, l3⟩, by have := pend_len text fr; simp only [List.length_append, List.length_cons]; omega, (slim_pend ht).app (Slims.cons (endX_slim hx hp2) (show 0 ≤ 4096 by decide) (show 0 ≤ 100000 by decide) l5)⟩
        · split at h
          · rename_i h60
            have hlt := in_of_bt (s := s) (p := p) (by omega)
            cases ht : tellX out text fr with
            | bad e a => rw [ht] at h; cases h
            | ok u o2 =>
              rw [ht] at h
              simp only at h
              obtain ⟨k', at', e, p1, p2, p3, p4, p5⟩ := pend_may hpi hk hat hfr ht
              cases hx : begX s p pile.length with
              | bad e a => rw [hx] at h; cases h
              | ok q' x =>
                obtain ⟨nm, sh, A⟩ := x
                rw [hx] at h
                simp only at h
                have hin := begX_in hx hlt
                obtain ⟨b1, b2, b3, b4, b5, b6⟩ := begX_is hx hlt
                split at h
                · obtain ⟨l, e2, l1, l2, l3, l4, l5⟩ := hold_nest (k := 2) (at_ := p) h hin.2 (.inr rfl) (by omega) (fun a ha => by cases ha) (fun _ => rfl)
                  refine ⟨pend text fr ++ (⟨1, nm, A, ⟨#[]⟩, p⟩ :: ⟨2, nm, [], ⟨#[]⟩, p⟩ :: l), by rw [e2, e]; simp, p4 _ (beg_may (.inl hpi) b1 b4 (end_may (by simp) (by simp) (by rw [List.dropLast_concat]; exact l1))), p5 _ (beg_short b2 b5 b6 b3 (end_short (by rw [List.dropLast_concat]; exact l2))), p3 _ ⟨p2, hlt, fun _ => h60, Nat.le_refl _, hlt, fun h => absurd h no21, l3⟩, by have := pend_len text fr; simp only [List.length_append, List.length_cons]; omega, (slim_pend ht).app (Slims.cons b2 (show 0 ≤ 4096 by decide) (slim_at b5 b6) (Slims.cons b2 (show 0 ≤ 4096 by decide) (show 0 ≤ 100000 by decide) l5))⟩
                · obtain ⟨l, e2, l1, l2, l3, l4, l5⟩ := hold_nest (k := 1) (at_ := p) h hin.2 (.inl rfl) (by omega) (fun a ha => by cases ha) (fun _ => rfl)
                  refine ⟨pend text fr ++ (⟨1, nm, A, ⟨#[]⟩, p⟩ :: l), by rw [e2, e]; simp, p4 _ (beg_may (.inl hpi) b1 b4 l1), p5 _ (beg_short b2 b5 b6 b3 l2), p3 _ ⟨p2, hlt, fun _ => h60, l3⟩, by have := pend_len text fr; simp only [List.length_append, List.length_cons]; omega, (slim_pend ht).app (Slims.cons b2 (show 0 ≤ 4096 by decide) (slim_at b5 b6) l5)⟩
          · split at h
            · cases h
            · rename_i hn
              cases hx : pieceX s p with
              | bad e a => rw [hx] at h; cases h
              | ok q' b =>
                rw [hx] at h
                simp only at h
                have hlt : p < s.size := by
                  by_cases hz : s.size ≤ p
                  · exact absurd (.inl hz) hn
                  · omega
                obtain ⟨t1, t2, t3⟩ := piece_taken hx hlt
                have hin := piece_in hx hp
                have hfr2 : ∀ a, some (fr.getD p) = some a → at_ ≤ a ∧ a ≤ q' ∧ a < s.size ∧ (text ++ b).size ≠ 0 ∧ takenE (text ++ b) = 0 := fun a ha => by
                  injection ha with ha
                  cases fr with
                  | none =>
                    have : a = p := ha.symm
                    rw [hno rfl]
                    subst this
                    refine ⟨hat, by omega, hlt, ?_, taken_append taken_nil t1⟩
                    rw [ByteArray.size_append]; omega
                  | some x =>
                    have : a = x := ha.symm
                    subst this
                    obtain ⟨f1, f2, f3, f4, f5⟩ := hfr a rfl
                    refine ⟨f1, by omega, f3, ?_, taken_append f5 t1⟩
                    rw [ByteArray.size_append]; omega
                obtain ⟨l, i1, i2, i3, i4, i5, i6⟩ := hold_nest (at_ := at_) h hin.2.1 hk (by omega) hfr2 (fun h => by cases h)
                exact ⟨l, i1, i2, i3, i4, by omega, i6⟩
/-- The tokens of a file. -/
theorem tokens_nest {s : ByteArray} {z : Nat} {L : List Tk} (h : tokensX s = .ok z L) : tksMay [] 0 L = true ∧ tksLong [] L = false ∧ Rises s 0 L ∧ L.length ≤ s.size ∧ Slims L := by
  unfold tokensX at h
  split at h
  · cases h
  · split at h
    · cases h
    · cases hd : declX s with
      | bad e a => rw [hd] at h; cases h
      | ok p0 u =>
        rw [hd] at h
        simp only at h
        have hp0 : p0 ≤ s.size := by
          unfold declX at hd
          split at hd
          · rename_i hw
            injection hd with hd
            subst hd
            have := wdAt_nth hw 20 62 rfl
            have := in_of_bt (s := s) (p := 0 + 20) (by omega)
            omega
          · split at hd
            · rename_i hw
              injection hd with hd
              subst hd
              have := wdAt_nth hw 37 62 rfl
              have := in_of_bt (s := s) (p := 0 + 37) (by omega)
              omega
            · split at hd
              · cases hd
              · injection hd with hd
                omega
        unfold bodyX at h
        cases hm : miscX s p0 with
        | bad e a => rw [hm] at h; cases h
        | ok p u =>
          rw [hm] at h
          simp only at h
          have hp := miscX_in hm hp0
          split at h
          · rename_i h60
            have hlt := in_of_bt (s := s) (p := p) (by omega)
            cases hx : begX s p 0 with
            | bad e a => rw [hx] at h; cases h
            | ok q' x =>
              obtain ⟨nm, sh, A⟩ := x
              rw [hx] at h
              simp only at h
              have hin := begX_in hx hlt
              obtain ⟨b1, b2, b3, b4, b5, b6⟩ := begX_is hx hlt
              cases sh with
              | true =>
                simp only [if_true] at h
                cases hh : holdF s (s.size + 1 - q') q' [⟨1, nm, A, ⟨#[]⟩, p⟩, ⟨2, nm, [], ⟨#[]⟩, p⟩] [] ⟨#[]⟩ none with
                | bad e a => rw [hh] at h; cases h
                | ok r out =>
                  rw [hh] at h
                  simp only at h
                  obtain ⟨l, e2, l1, l2, l3, l4, l5⟩ := hold_nest (k := 2) (at_ := p) hh hin.2 (.inr rfl) (by omega) (fun a ha => by cases ha) (fun _ => rfl)
                  cases hm2 : miscX s r with
                  | bad e a => rw [hm2] at h; cases h
                  | ok z' u' =>
                    rw [hm2] at h
                    simp only at h
                    split at h
                    · injection h with _ h
                      subst h e2
                      exact ⟨beg_may (.inr rfl) b1 b4 (end_may (by simp) (by simp) l1), beg_short b2 b5 b6 (by simp) (end_short l2), ⟨by omega, hlt, fun _ => h60, Nat.le_refl _, hlt, fun h => absurd h no21, l3⟩, by simp only [List.length_append, List.length_cons, List.length_nil]; omega, Slims.cons b2 (show 0 ≤ 4096 by decide) (slim_at b5 b6) (Slims.cons b2 (show 0 ≤ 4096 by decide) (show 0 ≤ 100000 by decide) l5)⟩
                    · cases h
              | false =>
                simp only [Bool.false_eq_true, if_false] at h
                cases hh : holdF s (s.size + 1 - q') q' [⟨1, nm, A, ⟨#[]⟩, p⟩] [nm] ⟨#[]⟩ none with
                | bad e a => rw [hh] at h; cases h
                | ok r out =>
                  rw [hh] at h
                  simp only at h
                  obtain ⟨l, e2, l1, l2, l3, l4, l5⟩ := hold_nest (k := 1) (at_ := p) hh hin.2 (.inl rfl) (by omega) (fun a ha => by cases ha) (fun _ => rfl)
                  cases hm2 : miscX s r with
                  | bad e a => rw [hm2] at h; cases h
                  | ok z' u' =>
                    rw [hm2] at h
                    simp only at h
                    split at h
                    · injection h with _ h
                      subst h e2
                      exact ⟨beg_may (.inr rfl) b1 b4 l1, beg_short b2 b5 b6 (by simp) l2, ⟨by omega, hlt, fun _ => h60, l3⟩, by simp only [List.length_append, List.length_cons, List.length_nil]; omega, Slims.cons b2 (show 0 ≤ 4096 by decide) (slim_at b5 b6) l5⟩
                    · cases h
          · cases h
end

section
open Go.RowKit Go.PlainAid

theorem D0_ok : DrOk D0 where
  q := .inl rfl
  enc := fun v hv => by
    obtain ⟨L, h1, h2, h3⟩ := pieces_of (s := v) (v.size + 1) 0 (takenE_X hv) (by omega) (Nat.zero_le _)
    rw [List.drop_zero] at h1 h2
    refine ⟨L, ?_, h1, fun x hx => ⟨(h3 x hx).1, (h3 x hx).2⟩⟩
    show Encs L = (escT v).data.toList
    unfold escT
    rw [if_pos hv]
    exact h2
  bl := fun c hc => absurd hc (by show ¬ c ∈ ([] : List UInt8); simp)
  cm := .inl rfl
  no := .inr rfl
theorem tkD_norm (t : Tk) : tkD (normT t) = tkD t := by
  unfold normT tkD
  by_cases h1 : t.kind = 1
  · simp [h1]
  · by_cases h2 : t.kind = 2
    · simp [h2]
    · simp [h1, h2]
theorem tkD_noAt (t : Tk) : tkD (noAt t) = tkD t := rfl
theorem tksD_map {f : Tk → Tk} (hf : ∀ t, tkD (f t) = tkD t) (l : List Tk) : tksD (l.map f) = tksD l := by
  unfold tksD
  induction l with
  | nil => rfl
  | cons t l ih => simp [hf, ih]
theorem prE_ok {l : List Tk} (h : prE l = 0) : tksMay [] 0 l = true ∧ tksLong [] l = false ∧ (tksD l).length ≤ 262144 := by
  unfold prE at h
  split at h
  · split at h
    · cases h
    · rename_i h1 h2
      refine ⟨h1, ?_, ?_⟩
      · cases hh : tksLong [] l with
        | false => rfl
        | true => exact absurd (.inl hh) h2
      · have := fun x => h2 (.inr x)
        omega
  · cases h
theorem prE_of {l : List Tk} (h1 : tksMay [] 0 l = true) (h2 : tksLong [] l = false) (h3 : (tksD l).length ≤ 262144) : prE l = 0 := by
  unfold prE
  rw [if_pos h1, if_neg (by rw [h2]; simp; omega)]
theorem prB_ok {l : List Tk} (h : prE l = 0) : prB l = ⟨(tksD l).toArray⟩ := by unfold prB; rw [if_pos h]
/-- What was written is read as it was, and is written so again. -/
theorem back_read {l : List Tk} (h : prE l = 0) : ∃ z L, tokensX (prB l) = .ok z L ∧ L.map noAt = l.map normT ∧ prE L = 0 ∧ prB L = prB l ∧ Rises (prB l) 0 L := by
  obtain ⟨h1, h2, h3⟩ := prE_ok h
  have hf : fileD D0 [] l = tksD l := by
    rw [← body_flat]
    show [] ++ (([] ++ ([] ++ [])) ++ (bodyD D0 false l ++ ([] ++ []))) = _
    simp
  obtain ⟨L, e1, e2⟩ := file_read D0_ok (head := []) (.inl rfl) h1 h2 (by rw [hf]; exact h3)
  rw [hf, ← prB_ok h] at e1
  obtain ⟨n1, n2, n3, _, _⟩ := tokens_nest e1
  have hd : tksD L = tksD l := by rw [← tksD_map tkD_noAt L, e2, tksD_map tkD_norm]
  have hL : prE L = 0 := prE_of n1 n2 (by rw [hd]; exact h3)
  exact ⟨_, L, e1, e2, hL, by rw [prB_ok hL, prB_ok h, hd], n3⟩
/-- What is read of a file is written, unless it is too long. -/
theorem nest_print {s : ByteArray} {z : Nat} {L : List Tk} (h : tokensX s = .ok z L) : prE L = 3 ∨ (prE L = 0 ∧ prB L ≠ ⟨#[]⟩) := by
  obtain ⟨n1, n2, n3, _, _⟩ := tokens_nest h
  by_cases hz : 262144 < (tksD L).length
  · left
    unfold prE
    rw [if_pos n1, if_pos (.inr hz)]
  · right
    have hL := prE_of n1 n2 (by omega)
    refine ⟨hL, ?_⟩
    rw [prB_ok hL]
    intro e
    cases L with
    | nil => exact absurd n1 (by decide)
    | cons t l =>
      have h0 : tksD (t :: l) = [] := by
        have := congrArg (fun b => b.data.toList) e
        simpa using this
      unfold tksMay at n1
      simp only [Bool.and_eq_true] at n1
      have h1 : tkD t = [] := by
        unfold tksD at h0
        rw [List.flatMap_cons] at h0
        exact (List.append_eq_nil_iff.1 h0).1
      rcases tkMay_cases n1.1 with ⟨k1, _⟩ | ⟨_, k2, _⟩ | ⟨_, k2, _⟩
      · unfold tkD at h1
        rw [if_pos k1] at h1
        cases h1
      · exact absurd rfl k2
      · exact absurd rfl k2
end

section
open Go.RowKit Go.PlainAid

/-- An error is none, or stands within a text. -/
def Bd {α : Type} (s : ByteArray) : Xr α → Prop
  | .bad e a => e ≠ 0 ∧ a ≤ s.size ∧ -9223372036854775808 ≤ e ∧ e ≤ 9223372036854775807
  | .ok _ _ => True
theorem Bd.at {α : Type} {s : ByteArray} {e : Int} {a : Nat} (h1 : e ≠ 0 ∧ -9223372036854775808 ≤ e ∧ e ≤ 9223372036854775807) (h2 : a ≤ s.size) : Bd s (Xr.bad (α := α) e a) := ⟨h1.1, h2, h1.2⟩
theorem Bd.of {α β : Type} {s : ByteArray} {x : Xr α} {e : Int} {a : Nat} (h : Bd s x) (hx : x = .bad e a) : Bd s (Xr.bad (α := β) e a) := by rw [hx] at h; exact h
theorem nameX_bd {s : ByteArray} {p : Nat} (hp : p ≤ s.size) : Bd s (nameX s p) := by
  unfold nameX
  split
  · split
    · exact Bd.at (by decide) hp
    · trivial
  · exact Bd.at (by decide) hp
theorem pieceX_bd {s : ByteArray} {p : Nat} (hp : p ≤ s.size) : Bd s (pieceX s p) := by
  unfold pieceX
  split
  · cases refX s p with
    | none => exact Bd.at (by decide) hp
    | some x => trivial
  · split
    · trivial
    · exact Bd.at (by decide) hp
theorem cmtF_bd {s : ByteArray} : ∀ {f p : Nat}, p ≤ s.size → Bd s (cmtF s f p)
  | 0, p, hp => Bd.at (by decide) hp
  | f + 1, p, hp => by
    unfold cmtF
    split
    · split
      · trivial
      · exact Bd.at (by decide) hp
    · split
      · rename_i h
        have : p < s.size := by
          by_cases hlt : p < s.size
          · exact hlt
          · rw [rn_end s p (by omega)] at h; cases h
        exact cmtF_bd (wd_in s p this)
      · exact Bd.at (by decide) hp
theorem cmtX_bd {s : ByteArray} {p : Nat} (hc : isCmt s p = true) : Bd s (cmtX s p) := by
  have := wdAt_nth hc 3 45 rfl
  have := in_of_bt (s := s) (p := p + 3) (by omega)
  exact cmtF_bd (by omega)
theorem miscF_bd {s : ByteArray} : ∀ {f p : Nat}, p ≤ s.size → Bd s (miscF s f p)
  | 0, p, hp => trivial
  | f + 1, p, hp => by
    unfold miscF
    split
    · exact miscF_bd (blk_le s p hp)
    · split
      · rename_i hc
        cases hx : cmtX s p with
        | bad e a => exact (cmtX_bd hc).of hx
        | ok q u => exact miscF_bd (cmtX_in hx hc hp).2
      · trivial
theorem valF_bd {s : ByteArray} {q : Int} : ∀ {f p : Nat} {acc : ByteArray}, p ≤ s.size → Bd s (valF s q f p acc)
  | 0, p, acc, hp => Bd.at (by decide) hp
  | f + 1, p, acc, hp => by
    unfold valF
    split
    · trivial
    · split
      · exact Bd.at (by decide) hp
      · cases hx : pieceX s p with
        | bad e a => exact (pieceX_bd hp).of hx
        | ok p' b => exact valF_bd (piece_in hx hp).2.1
theorem valX_bd {s : ByteArray} {p : Nat} (hp : p ≤ s.size) : Bd s (valX s p) := by
  unfold valX
  split
  · rename_i hb
    have hlt := in_of_bt (s := s) (p := p) (by omega)
    cases hx : valF s (bt s p) (s.size + 1 - p) (p + 1) ⟨#[]⟩ with
    | bad e a => exact (valF_bd (q := bt s p) (f := s.size + 1 - p) (acc := ⟨#[]⟩) (show p + 1 ≤ s.size by omega)).of hx
    | ok p' w =>
      simp only
      split
      · exact Bd.at (by decide) hp
      · trivial
  · exact Bd.at (by decide) hp
theorem attrX_bd {s : ByteArray} {p : Nat} {l : List At2} (hp : p ≤ s.size) : Bd s (attrX s p l) := by
  unfold attrX
  cases hn : nameX s p with
  | bad e a => exact (nameX_bd hp).of hn
  | ok q nm =>
    obtain ⟨h1, h2⟩ := nameX_in hn hp
    simp only
    split
    · exact Bd.at (by decide) hp
    · split
      · exact Bd.at (by decide) hp
      · split
        · rename_i h61
          have hlt := in_of_bt (s := s) (p := q) (by omega)
          cases hv : valX s (q + 1) with
          | bad e a => exact (valX_bd (show q + 1 ≤ s.size by omega)).of hv
          | ok q2 v => trivial
        · exact Bd.at (by decide) h2
theorem begF_bd {s : ByteArray} : ∀ {f p : Nat} {l : List At2}, p ≤ s.size → Bd s (begF s f p l)
  | 0, p, l, hp => Bd.at (by decide) hp
  | f + 1, p, l, hp => by
    have hb2 := blk_le s p hp
    unfold begF
    split
    · trivial
    · split
      · rename_i h47
        have hlt := in_of_bt (s := s) (p := blk s p) (by omega)
        split
        · trivial
        · exact Bd.at (by decide) (by omega)
      · split
        · exact Bd.at (by decide) hb2
        · cases ha : attrX s (blk s p) l with
          | bad e a => exact (attrX_bd hb2).of ha
          | ok q a => exact begF_bd (attrX_in ha hb2).2.1
theorem begX_bd {s : ByteArray} {p n : Nat} (hp : p < s.size) : Bd s (begX s p n) := by
  unfold begX
  cases hn : nameX s (p + 1) with
  | bad e a => exact (nameX_bd (show p + 1 ≤ s.size by omega)).of hn
  | ok q nm =>
    obtain ⟨h1, h2⟩ := nameX_in hn (by omega)
    simp only
    split
    · exact Bd.at (by decide) (by omega)
    · cases hb : begF s (s.size + 1 - q) q [] with
      | bad e a => exact (begF_bd h2).of hb
      | ok q' x => trivial
theorem endX_bd {s : ByteArray} {p : Nat} {top : ByteArray} (hp : p + 2 ≤ s.size) : Bd s (endX s p top) := by
  unfold endX
  cases hn : nameX s (p + 2) with
  | bad e a => exact (nameX_bd hp).of hn
  | ok q nm =>
    obtain ⟨h1, h2⟩ := nameX_in hn hp
    simp only
    split
    · split
      · trivial
      · exact Bd.at (by decide) (blk_le s q h2)
    · exact Bd.at (by decide) (by omega)
theorem tellX_bd {s : ByteArray} {out : List Tk} {text : ByteArray} {fr : Option Nat} (h : ∀ a, fr = some a → a ≤ s.size) : Bd s (tellX out text fr) := by
  unfold tellX
  cases fr with
  | none => trivial
  | some a =>
    simp only
    split
    · exact Bd.at (by decide) (h a rfl)
    · trivial
theorem holdF_bd {s : ByteArray} : ∀ {f p : Nat} {out : List Tk} {pile : List ByteArray} {text : ByteArray} {fr : Option Nat}, p ≤ s.size → (∀ a, fr = some a → a ≤ s.size) → Bd s (holdF s f p out pile text fr)
  | 0, p, out, pile, text, fr, hp, _ => Bd.at (by decide) hp
  | f + 1, p, out, pile, text, fr, hp, hfr => by
    unfold holdF
    split
    · trivial
    · split
      · rename_i hc
        cases hx : cmtX s p with
        | bad e a => exact (cmtX_bd hc).of hx
        | ok q u => exact holdF_bd (cmtX_in hx hc hp).2 hfr
      · split
        · rename_i hw
          have h47 := wdAt_nth hw 1 47 rfl
          have hlt2 := in_of_bt (s := s) (p := p + 1) (by omega)
          cases ht : tellX out text fr with
          | bad e a => exact (tellX_bd hfr).of ht
          | ok u o2 =>
            simp only
            cases hx : endX s p (pile.getLastD ⟨#[]⟩) with
            | bad e a => exact (endX_bd (by omega)).of hx
            | ok q nm => exact holdF_bd (endX_in hx (by omega)).2 (fun a ha => by cases ha)
        · split
          · rename_i h60
            have hlt := in_of_bt (s := s) (p := p) (by omega)
            cases ht : tellX out text fr with
            | bad e a => exact (tellX_bd hfr).of ht
            | ok u o2 =>
              simp only
              cases hx : begX s p pile.length with
              | bad e a => exact (begX_bd hlt).of hx
              | ok q x =>
                obtain ⟨nm, sh, A⟩ := x
                have hin := begX_in hx hlt
                simp only
                split
                · exact holdF_bd hin.2 (fun a ha => by cases ha)
                · exact holdF_bd hin.2 (fun a ha => by cases ha)
          · split
            · exact Bd.at (by decide) hp
            · cases hx : pieceX s p with
              | bad e a => exact (pieceX_bd hp).of hx
              | ok q b =>
                refine holdF_bd (piece_in hx hp).2.1 (fun a ha => ?_)
                injection ha with ha
                subst ha
                cases fr with
                | none => exact hp
                | some x => exact hfr x rfl
theorem holdF_in {s : ByteArray} : ∀ {f p r : Nat} {out L : List Tk} {pile : List ByteArray} {text : ByteArray} {fr : Option Nat}, holdF s f p out pile text fr = .ok r L → p ≤ s.size → r ≤ s.size
  | 0, p, r, out, L, pile, text, fr, h, _ => by simp [holdF] at h
  | f + 1, p, r, out, L, pile, text, fr, h, hp => by
    unfold holdF at h
    split at h
    · injection h with h
      omega
    · split at h
      · rename_i hc
        cases hx : cmtX s p with
        | bad e a => rw [hx] at h; cases h
        | ok q u => rw [hx] at h; exact holdF_in h (cmtX_in hx hc hp).2
      · split at h
        · rename_i hw
          have h47 := wdAt_nth hw 1 47 rfl
          have hlt2 := in_of_bt (s := s) (p := p + 1) (by omega)
          cases ht : tellX out text fr with
          | bad e a => rw [ht] at h; cases h
          | ok u o2 =>
            rw [ht] at h
            simp only at h
            cases hx : endX s p (pile.getLastD ⟨#[]⟩) with
            | bad e a => rw [hx] at h; cases h
            | ok q nm => rw [hx] at h; exact holdF_in h (endX_in hx (by omega)).2
        · split at h
          · rename_i h60
            have hlt := in_of_bt (s := s) (p := p) (by omega)
            cases ht : tellX out text fr with
            | bad e a => rw [ht] at h; cases h
            | ok u o2 =>
              rw [ht] at h
              simp only at h
              cases hx : begX s p pile.length with
              | bad e a => rw [hx] at h; cases h
              | ok q x =>
                obtain ⟨nm, sh, A⟩ := x
                rw [hx] at h
                have hin := begX_in hx hlt
                simp only at h
                split at h
                · exact holdF_in h hin.2
                · exact holdF_in h hin.2
          · split at h
            · cases h
            · cases hx : pieceX s p with
              | bad e a => rw [hx] at h; cases h
              | ok q b => rw [hx] at h; exact holdF_in h (piece_in hx hp).2.1
theorem declX_in {s : ByteArray} {p : Nat} {u : Unit} (h : declX s = .ok p u) : p ≤ s.size := by
  unfold declX at h
  split at h
  · rename_i hw
    injection h with h
    subst h
    have := wdAt_nth hw 20 62 rfl
    have := in_of_bt (s := s) (p := 0 + 20) (by omega)
    omega
  · split at h
    · rename_i hw
      injection h with h
      subst h
      have := wdAt_nth hw 37 62 rfl
      have := in_of_bt (s := s) (p := 0 + 37) (by omega)
      omega
    · split at h
      · cases h
      · injection h with h
        omega
theorem bodyX_bd {s : ByteArray} {p : Nat} (hp : p ≤ s.size) : Bd s (bodyX s p) := by
  unfold bodyX
  cases hm : miscX s p with
  | bad e a => exact (miscF_bd hp).of hm
  | ok p1 u =>
    have hp1 := miscX_in hm hp
    simp only
    split
    · rename_i h60
      have hlt := in_of_bt (s := s) (p := p1) (by omega)
      cases hx : begX s p1 0 with
      | bad e a => exact (begX_bd hlt).of hx
      | ok q x =>
        obtain ⟨nm, sh, A⟩ := x
        have hin := begX_in hx hlt
        simp only
        have key : ∀ (y : Xr (List Tk)), (∃ o pl, y = holdF s (s.size + 1 - q) q o pl ⟨#[]⟩ none) → Bd s (match y with | .bad e a => Xr.bad e a | .ok r out => match miscX s r with | .bad e a => .bad e a | .ok z _ => if z = s.size then .ok z out else .bad 140 z) := fun y ⟨o, pl, hy⟩ => by
          have hb := holdF_bd (s := s) (f := s.size + 1 - q) (out := o) (pile := pl) (text := ⟨#[]⟩) (fr := none) hin.2 (fun a ha => by cases ha)
          cases hyy : y with
          | bad e a => rw [← hy, hyy] at hb; exact hb
          | ok r out =>
            have hr := holdF_in (hy.symm.trans hyy) hin.2
            simp only
            cases hm2 : miscX s r with
            | bad e a => exact (miscF_bd hr).of hm2
            | ok z u =>
              simp only
              split
              · trivial
              · exact Bd.at (by decide) (miscX_in hm2 hr).2
        cases sh with
        | true => exact key _ ⟨_, _, rfl⟩
        | false => exact key _ ⟨_, _, rfl⟩
    · exact Bd.at (by decide) hp1.2
/-- The place of an error lies within the file. -/
theorem tokens_bad {s : ByteArray} {e : Int} {a : Nat} (h : tokensX s = .bad e a) : e ≠ 0 ∧ a ≤ s.size := by
  have hb : Bd s (tokensX s) := by
    unfold tokensX
    split
    · exact Bd.at (by decide) (by omega)
    · split
      · refine Bd.at (by decide) ?_
        have : brk s 0 < s.size := (brk_bd s _ 0).2
        omega
      · cases hd : declX s with
        | bad e a =>
          unfold declX at hd
          split at hd
          · cases hd
          · split at hd
            · cases hd
            · split at hd
              · injection hd with h1 h2
                subst h1 h2
                exact Bd.at (by decide) (Nat.zero_le _)
              · cases hd
        | ok p u => exact bodyX_bd (declX_in hd)
  rw [h] at hb
  exact ⟨hb.1, hb.2.1⟩
end
end Go.Proofs.YtdipbfchlopeaaaGreatDoor
