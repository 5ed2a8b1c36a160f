/-
  Patterns of dates: what the walk of Parse asks in plain words: a quote in the rest of a text, a row of one byte, the frame's slots.
-/
import Derived.Test.YtbnhfjhhbgmhfaaDoorDpT
namespace Go.Proofs.YtbnhfjhhbgmhfaaDoor
open Go.RowKit Go.PlainAid

theorem map_range (t : Array Value) (n : Nat) (h : t.size = n) : t = ((List.range n).map fun k => t.getD k undef).toArray := by
  apply Array.ext
  · simp [h]
  · intro i h1 h2
    simp [Array.getD, h1]
/-- The frame's slots by number. -/
theorem lit114 (t : Array Value) (h : t.size = 114) : ∃ f : Nat → Value, (∀ k, t.getD k undef = f k) ∧ t = #[f 0, f 1, f 2, f 3, f 4, f 5, f 6, f 7, f 8, f 9, f 10, f 11, f 12, f 13, f 14, f 15, f 16, f 17, f 18, f 19, f 20, f 21, f 22, f 23, f 24, f 25, f 26, f 27, f 28, f 29, f 30, f 31, f 32, f 33, f 34, f 35, f 36, f 37, f 38, f 39, f 40, f 41, f 42, f 43, f 44, f 45, f 46, f 47, f 48, f 49, f 50, f 51, f 52, f 53, f 54, f 55, f 56, f 57, f 58, f 59, f 60, f 61, f 62, f 63, f 64, f 65, f 66, f 67, f 68, f 69, f 70, f 71, f 72, f 73, f 74, f 75, f 76, f 77, f 78, f 79, f 80, f 81, f 82, f 83, f 84, f 85, f 86, f 87, f 88, f 89, f 90, f 91, f 92, f 93, f 94, f 95, f 96, f 97, f 98, f 99, f 100, f 101, f 102, f 103, f 104, f 105, f 106, f 107, f 108, f 109, f 110, f 111, f 112, f 113] :=
  ⟨fun k => t.getD k undef, fun _ => rfl, map_range t 114 h⟩

theorem bt_extract (s : ByteArray) (a b k : Nat) (h : a + k < b) (hb : b ≤ s.size) : bt (s.extract a b) k = bt s (a + k) := by
  have h1 : k < (s.extract a b).size := by simp; omega
  have h2 : a + k < s.size := by omega
  unfold bt
  rw [dif_pos h1, dif_pos h2]
  simp [ByteArray.getElem_extract]
theorem ext_ext (s : ByteArray) (k i : Nat) : (s.extract k s.size).extract i (i + 1) = s.extract (k + i) (k + i + 1) := by
  apply ByteArray.ext
  simp only [ByteArray.data_extract, Array.extract_extract]
  by_cases h : k + (i + 1) ≤ s.size
  · rw [Nat.min_eq_left h]; rfl
  · rw [Nat.min_eq_right (by omega)]
    have e : s.size ≤ k + i := by omega
    rw [Array.extract_empty_of_size_le_start (by exact e), Array.extract_empty_of_size_le_start (by exact e)]
/-- What the rest of a text holds in a quote. -/
theorem qR_rest (s : ByteArray) (k : Nat) (hk : k ≤ s.size) : ∀ (f i : Nat) (acc : ByteArray), s.size - (k + i) = f → qR (s.extract k s.size) i acc = (qR s (k + i) acc).map fun x => (x.1, x.2 - k)
  | f, i, acc, hf => by
    have hz : (s.extract k s.size).size = s.size - k := by simp
    by_cases hi : k + i < s.size
    · have hi' : i < (s.extract k s.size).size := by omega
      have hb := bt_extract s k s.size i hi (Nat.le_refl _)
      by_cases h39 : bt s (k + i) = 39
      · by_cases h2 : k + i + 1 < s.size ∧ bt s (k + i + 1) = 39
        · have hb2 := bt_extract s k s.size (i + 1) (by omega) (Nat.le_refl _)
          rw [qR_two (s := s) h2.1 h39 h2.2, qR_two (s := s.extract k s.size) (by omega) (by rw [hb]; exact h39) (by rw [hb2]; exact h2.2)]
          rw [show k + i + 2 = k + (i + 2) by omega]
          exact qR_rest s k hk _ (i + 2) _ rfl
        · rw [qR_close (s := s) hi h39 h2, qR_close (s := s.extract k s.size) hi' (by rw [hb]; exact h39) (fun h => h2 (by
            have hb2 := bt_extract s k s.size (i + 1) (by omega) (Nat.le_refl _)
            rw [hb2] at h
            exact ⟨by omega, h.2⟩))]
          simp; omega
      · rw [qR_plain (s := s) hi h39, qR_plain (s := s.extract k s.size) hi' (by rw [hb]; exact h39), ext_ext, show k + i + 1 = k + (i + 1) by omega]
        exact qR_rest s k hk _ (i + 1) _ rfl
    · rw [qR_end (s := s) hi, qR_end (s := s.extract k s.size) (by omega)]
      rfl
  termination_by f => f
  decreasing_by all_goals omega

theorem two_quotes (s : ByteArray) (i : Nat) (h : i < s.size) : Lib.hasPrefix (s.extract i s.size).data.toList [39, 39] = decide (bt s i = 39 ∧ i + 1 < s.size ∧ bt s (i + 1) = 39) := by
  have hl : i < s.data.toList.length := by rw [Array.length_toList]; exact h
  have e0 : ∀ j (hj : j < s.data.toList.length), (s.data.toList[j] = 39) ↔ bt s j = 39 := by
    intro j hj
    have hj' : j < s.size := by rw [Array.length_toList] at hj; exact hj
    unfold bt
    rw [dif_pos hj', Array.getElem_toList]
    show s[j] = 39 ↔ _
    constructor
    · intro h; rw [h]; rfl
    · intro h; exact UInt8.toNat_inj.1 (by have : (39 : UInt8).toNat = 39 := rfl; omega)
  have e : (s.extract i s.size).data.toList = s.data.toList.drop i := by
    rw [ByteArray.data_extract, Array.toList_extract, List.extract_eq_take_drop]
    exact List.take_of_length_le (by simp)
  rw [e, List.drop_eq_getElem_cons hl]
  unfold Lib.hasPrefix
  rw [Bool.eq_iff_iff, decide_eq_true_iff]
  by_cases h2 : i + 1 < s.data.toList.length
  · rw [List.drop_eq_getElem_cons h2]
    simp only [List.isPrefixOf, Bool.and_true, Bool.and_eq_true, beq_iff_eq]
    have h2' : i + 1 < s.size := by rw [Array.length_toList] at h2; exact h2
    rw [show ((39 : UInt8) = s.data.toList[i]) ↔ bt s i = 39 from ⟨fun h => (e0 i hl).1 h.symm, fun h => ((e0 i hl).2 h).symm⟩, show ((39 : UInt8) = s.data.toList[i + 1]) ↔ bt s (i + 1) = 39 from ⟨fun h => (e0 _ h2).1 h.symm, fun h => ((e0 _ h2).2 h).symm⟩]
    exact ⟨fun h => ⟨h.1, h2', h.2⟩, fun h => ⟨h.1, h.2.2⟩⟩
  · rw [List.drop_eq_nil_of_le (by omega)]
    have h2' : ¬ i + 1 < s.size := by rw [Array.length_toList] at h2; exact h2
    simp only [List.isPrefixOf, Bool.and_false, Bool.false_eq_true, false_iff]
    exact fun h => h2' h.2.1
theorem PFRow.mono {b base : Nat} {w : World} {v : Value} {l : List PF} (h : PFRow base w v l) (hb : b ≤ base) : PFRow b w v l := by
  obtain ⟨h1, h2⟩ := h
  refine ⟨h1, ?_⟩
  rcases h2 with h2 | ⟨g, cap, cur, hv, hg, r⟩
  · exact .inl h2
  · exact .inr ⟨g, cap, cur, hv, Nat.le_trans hb hg, r⟩
theorem putR_mem {l : List PF} {t : ByteArray} {x : PF} (h : x ∈ putR l t) : x ∈ l ∨ x.2.2 = t ∨ ∃ y ∈ l, x.2.2 = y.2.2 ++ t := by
  rcases List.eq_nil_or_concat l with rfl | ⟨l', y, rfl⟩
  · rw [putR_nil] at h
    simp at h
    subst h
    exact .inr (.inl rfl)
  · rw [List.concat_eq_append] at *
    obtain ⟨b, c, u⟩ := y
    by_cases hb : b = 0
    · subst hb
      rw [putR_text] at h
      rcases List.mem_append.1 h with h | h
      · exact .inl (List.mem_append.2 (.inl h))
      · simp at h
        subst h
        exact .inr (.inr ⟨(0, c, u), by simp, rfl⟩)
    · rw [putR_letter hb] at h
      rcases List.mem_append.1 h with h | h
      · exact .inl h
      · simp at h
        subst h
        exact .inr (.inl rfl)
theorem putR_size {l : List PF} {t : ByteArray} {n m : Nat} (hl : ∀ x ∈ l, x.2.2.size ≤ n) (ht : t.size + n ≤ m) : ∀ x ∈ putR l t, x.2.2.size ≤ m := by
  intro x hx
  rcases putR_mem hx with h | h | ⟨y, hy, h⟩
  · have := hl x h; omega
  · rw [h]; omega
  · have := hl y hy
    rw [h, ByteArray.size_append]
    omega
theorem snoc_size {l : List PF} {x : PF} {n m : Nat} (hl : ∀ x ∈ l, x.2.2.size ≤ n) (hx : x.2.2.size ≤ m) (hn : n ≤ m) : ∀ y ∈ l ++ [x], y.2.2.size ≤ m := by
  intro y hy
  rcases List.mem_append.1 hy with h | h
  · have := hl y h; omega
  · simp at h; subst h; exact hx
end Go.Proofs.YtbnhfjhhbgmhfaaDoor
