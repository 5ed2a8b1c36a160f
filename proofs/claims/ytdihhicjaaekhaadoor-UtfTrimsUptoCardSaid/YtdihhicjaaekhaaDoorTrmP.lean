/-
  What stands between blanks, as lists of bytes: trimming and joining change it not. No walk.
-/
import Derived.Test.YtdihhicjaaekhaaDoorFldI
namespace Go.Proofs.YtdihhicjaaekhaaDoor
open Go.PlainAid

def isB (b : UInt8) : Bool := bBlank (b.toNat : Int)
def wStep (st : List (List UInt8) × List UInt8) (b : UInt8) : List (List UInt8) × List UInt8 :=
  if isB b = true then (if st.2 = [] then (st.1, []) else (st.1 ++ [st.2], [])) else (st.1, st.2 ++ [b])
def wEnd (st : List (List UInt8) × List UInt8) : List (List UInt8) := if st.2 = [] then st.1 else st.1 ++ [st.2]
/-- The words of a list of bytes. -/
def words (l : List UInt8) : List (List UInt8) := wEnd (l.foldl wStep ([], []))

theorem list_extract (s : ByteArray) (i j : Nat) : (s.extract i j).data.toList = (s.data.toList.take j).drop i := by
  rw [Lib.extract_data, List.drop_take]
theorem extract_more (s : ByteArray) (f i : Nat) (hf : f ≤ i) (h : i < s.size) : (s.extract f (i + 1)).data.toList = (s.extract f i).data.toList ++ [s.data.toList[i]'(by rw [Array.length_toList]; exact h)] := by
  have hl : i < s.data.toList.length := by rw [Array.length_toList]; exact h
  rw [list_extract, list_extract, List.take_succ_eq_append_getElem hl, List.drop_append_of_le_length (by rw [List.length_take]; omega)]
theorem extract_none (s : ByteArray) (i : Nat) : (s.extract i i).data.toList = [] := by
  rw [list_extract, List.drop_eq_nil_iff]
  simp
  omega
theorem extract_ne (s : ByteArray) {f i : Nat} (hf : f < i) (h : i ≤ s.size) : (s.extract f i).data.toList ≠ [] := by
  intro h0
  have : (s.extract f i).data.toList.length = i - f := by rw [Array.length_toList]; show (s.extract f i).size = _; simp; omega
  rw [h0] at this
  simp at this
  omega
theorem isB_at (s : ByteArray) (i : Nat) (h : i < s.data.toList.length) : isB (s.data.toList[i]) = bBlank (bt s i) := by
  have h' : i < s.size := by rw [Array.length_toList] at h; exact h
  unfold isB bt
  rw [dif_pos h']
  rfl
/-- A field's bytes. -/
def fldT (s : ByteArray) (x : Nat × Nat) : List UInt8 := (s.extract x.1 x.2).data.toList
def opnT (s : ByteArray) (o : Option Nat) (i : Nat) : List UInt8 := match o with | none => [] | some f => (s.extract f i).data.toList
theorem words_fldS (s : ByteArray) : ∀ i, i ≤ s.size → (s.data.toList.take i).foldl wStep ([], []) = ((fldS s i).1.map (fldT s), opnT s (fldS s i).2 i)
  | 0, _ => rfl
  | i + 1, h => by
    have hl : i < s.data.toList.length := by rw [Array.length_toList]; exact h
    rw [List.take_succ_eq_append_getElem hl, List.foldl_append, words_fldS s i (by omega)]
    simp only [List.foldl_cons, List.foldl_nil]
    unfold wStep
    rw [isB_at]
    cases hb : bBlank (bt s i) with
    | true =>
      rw [if_pos rfl, fldS_blank hb]
      unfold fldC
      cases hp : fldS s i with
      | mk L o =>
        cases o with
        | none => simp [opnT]
        | some f => have := (fldS_open hp).1; simp [opnT, fldT]; omega
    | false =>
      rw [if_neg (by decide), fldS_non hb]
      cases hp : fldS s i with
      | mk L o =>
        cases o with
        | none =>
          simp only [opnT, Option.getD_none]
          rw [extract_more s i i (Nat.le_refl _) h, extract_none]
        | some f =>
          simp only [opnT, Option.getD_some]
          rw [extract_more s f i (Nat.le_of_lt (fldS_open hp).1) h]
/-- The fields' bytes are the words of the text's bytes. -/
theorem words_flds (s : ByteArray) : words s.data.toList = (flds s).map (fldT s) := by
  have h := words_fldS s s.size (Nat.le_refl _)
  rw [List.take_of_length_le (by rw [Array.length_toList]; exact Nat.le_refl _)] at h
  unfold words flds fldC
  rw [h]
  cases hp : fldS s s.size with
  | mk L o =>
    cases o with
    | none => simp [wEnd, opnT]
    | some f => have := (fldS_open hp).1; simp [wEnd, opnT, fldT]; omega

theorem fold_lead : ∀ (a : List UInt8), (∀ b ∈ a, isB b = true) → a.foldl wStep ([], []) = ([], [])
  | [], _ => rfl
  | b :: a, h => by
    rw [List.foldl_cons]
    have : wStep ([], []) b = ([], []) := by unfold wStep; rw [if_pos (h b (by simp))]; rfl
    rw [this]
    exact fold_lead a (fun c hc => h c (by simp [hc]))
theorem fold_trail : ∀ (a : List UInt8) (st), (∀ b ∈ a, isB b = true) → wEnd (a.foldl wStep st) = wEnd st
  | [], _, _ => rfl
  | b :: a, st, h => by
    rw [List.foldl_cons, fold_trail a _ (fun c hc => h c (by simp [hc]))]
    unfold wStep wEnd
    rw [if_pos (h b (by simp))]
    by_cases h0 : st.2 = []
    · simp [h0]
    · simp [h0]
theorem words_trim {a m z : List UInt8} (ha : ∀ b ∈ a, isB b = true) (hz : ∀ b ∈ z, isB b = true) : words (a ++ m ++ z) = words m := by
  unfold words
  rw [List.foldl_append, List.foldl_append, fold_lead a ha, fold_trail z _ hz]
/-- A trimmed text has the same words. -/
theorem words_trimB (s : ByteArray) : words (trimB s).data.toList = words s.data.toList := by
  obtain ⟨a, b, h1, h2, h3, h4, h5, _⟩ := trimS_is s
  have h3' : (trimB s).data.toList = (s.data.toList.take b).drop a := by
    show ((⟨_⟩ : ByteArray)).data.toList = _
    rw [h3, list_extract]
  have e : s.data.toList = s.data.toList.take a ++ (s.data.toList.take b).drop a ++ s.data.toList.drop b := by
    have e1 : s.data.toList.take a = (s.data.toList.take b).take a := by rw [List.take_take, Nat.min_eq_left h1]
    rw [e1, List.take_append_drop, List.take_append_drop]
  rw [h3']
  conv => rhs; rw [e]
  refine (words_trim (fun x hx => ?_) (fun x hx => ?_)).symm
  · obtain ⟨k, hk, rfl⟩ := List.mem_iff_getElem.1 hx
    rw [List.length_take] at hk
    rw [List.getElem_take, isB_at]
    exact h4 k (by omega)
  · obtain ⟨k, hk, rfl⟩ := List.mem_iff_getElem.1 hx
    rw [List.length_drop, Array.length_toList] at hk
    rw [List.getElem_drop, isB_at]
    exact h5 (b + k) (by omega) (by have : s.data.size = s.size := rfl; omega)

/-- One word more behind those that are joined. -/
def jStep (acc w : List UInt8) : List UInt8 := (if acc = [] then acc else acc ++ [32]) ++ w
def joinW (l : List (List UInt8)) : List UInt8 := l.foldl jStep []
def Good (w : List UInt8) : Prop := w ≠ [] ∧ ∀ b ∈ w, isB b = false
theorem fold_word : ∀ (w : List UInt8) (st : List (List UInt8) × List UInt8), (∀ b ∈ w, isB b = false) → w.foldl wStep st = (st.1, st.2 ++ w)
  | [], st, _ => by simp
  | b :: w, st, h => by
    rw [List.foldl_cons, fold_word w _ (fun c hc => h c (by simp [hc]))]
    unfold wStep
    rw [if_neg (by rw [h b (by simp)]; decide)]
    simp
theorem words_join_from : ∀ (l : List (List UInt8)) (acc : List UInt8) (ini : List (List UInt8)) (last : List UInt8), acc ≠ [] → acc.foldl wStep ([], []) = (ini, last) → last ≠ [] → (∀ w ∈ l, Good w) → words (l.foldl jStep acc) = ini ++ [last] ++ l
  | [], acc, ini, last, _, h, hl, _ => by
    unfold words
    rw [List.foldl_nil, h]
    simp [wEnd, hl]
  | w :: l, acc, ini, last, ha, h, hl, hg => by
    have hw := hg w (by simp)
    have e : jStep acc w = acc ++ [32] ++ w := by unfold jStep; rw [if_neg ha]
    rw [List.foldl_cons, e]
    have h2 : (acc ++ [32] ++ w).foldl wStep ([], []) = (ini ++ [last], w) := by
      rw [List.foldl_append, List.foldl_append, h]
      have : [(32 : UInt8)].foldl wStep (ini, last) = (ini ++ [last], []) := by
        simp only [List.foldl_cons, List.foldl_nil]
        unfold wStep
        rw [if_pos (by decide), if_neg hl]
      rw [this, fold_word w _ hw.2]
      simp
    rw [words_join_from l _ (ini ++ [last]) w (by simp) h2 hw.1 (fun v hv => hg v (by simp [hv]))]
    simp
theorem words_join {l : List (List UInt8)} (h : ∀ w ∈ l, Good w) : words (joinW l) = l := by
  cases l with
  | nil => rfl
  | cons w l =>
    have hw := h w (by simp)
    have e : jStep [] w = w := by unfold jStep; simp
    unfold joinW
    rw [List.foldl_cons, e, words_join_from l w [] w hw.1 (by rw [fold_word w _ hw.2]; simp) hw.1 (fun v hv => h v (by simp [hv]))]
    simp
theorem joinW_snoc (l : List (List UInt8)) (w : List UInt8) : joinW (l ++ [w]) = jStep (joinW l) w := by unfold joinW; rw [List.foldl_append]; rfl
theorem flds_good (s : ByteArray) : ∀ w ∈ (flds s).map (fldT s), Good w := by
  intro w hw
  obtain ⟨x, hx, rfl⟩ := List.mem_map.1 hw
  obtain ⟨h1, h2, h3⟩ := flds_ok x hx
  refine ⟨extract_ne s h1 h2, fun b hb => ?_⟩
  unfold fldT at hb
  rw [list_extract] at hb
  obtain ⟨k, hk, rfl⟩ := List.mem_iff_getElem.1 hb
  rw [List.length_drop, List.length_take] at hk
  rw [List.getElem_drop, List.getElem_take, isB_at]
  exact h3 _ (by omega) (by omega)
/-- The fields of the fields put together are the same. -/
theorem flds_join {s t : ByteArray} (h : t.data.toList = joinW ((flds s).map (fldT s))) : (flds t).map (fldT t) = (flds s).map (fldT s) := by
  rw [← words_flds, h, words_join (flds_good s)]
theorem flds_trim (s : ByteArray) : (flds (trimB s)).map (fldT (trimB s)) = (flds s).map (fldT s) := by
  rw [← words_flds, words_trimB, words_flds]
theorem trim_trim (s : ByteArray) : trimB (trimB s) = trimB s := by
  refine isTrim_one (trimS_is (trimB s)) ⟨0, (trimB s).size, Nat.zero_le _, Nat.le_refl _, by simp, fun k hk => absurd hk (by omega), fun k h1 h2 => by omega, fun h => ?_⟩
  obtain ⟨a, b, h1, h2, h3, _, _, h6⟩ := trimS_is s
  have h3' : trimB s = s.extract a b := h3
  have hz := size_sub s a b h2
  rw [h3'] at h ⊢
  rw [hz] at h ⊢
  have hab : a < b := by omega
  rw [bt_sub s a b 0 (by omega) h2, bt_sub s a b (b - a - 1) (by omega) h2]
  rw [Nat.add_zero, show a + (b - a - 1) = b - 1 by omega]
  exact h6 hab
theorem trim_ends {s : ByteArray} (h : 0 < (trimB s).size) : bBlank (bt (trimB s) 0) = false ∧ bBlank (bt (trimB s) ((trimB s).size - 1)) = false := by
  obtain ⟨a, b, h1, h2, h3, _, _, h6⟩ := trimS_is s
  have h3' : trimB s = s.extract a b := h3
  have hz := size_sub s a b h2
  rw [h3'] at h ⊢
  rw [hz] at h ⊢
  rw [bt_sub s a b 0 (by omega) h2, bt_sub s a b (b - a - 1) (by omega) h2, Nat.add_zero, show a + (b - a - 1) = b - 1 by omega]
  exact h6 (by omega)
theorem trim_size (s : ByteArray) : (trimB s).size ≤ s.size := by
  obtain ⟨a, b, h1, h2, h3, _⟩ := trimS_is s
  have h3' : trimB s = s.extract a b := h3
  rw [h3', size_sub s a b h2]
  omega
end Go.Proofs.YtdihhicjaaekhaaDoor
