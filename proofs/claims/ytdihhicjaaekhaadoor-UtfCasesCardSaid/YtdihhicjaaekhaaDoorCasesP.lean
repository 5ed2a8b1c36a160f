/-
  Plain facts on the two cases of letters: they lead to each other, and leave a text's pieces, letters and names as they are. No program in sight.
-/
import Derived.Test.YtdihhicjaaekhaaDoorUtfQ
import Derived.Test.YtdihhicjaaekhaaDoorUtfS
import Derived.Test.YtdihhicjaaekhaaDoorUtfT
namespace Go.Proofs.YtdihhicjaaekhaaDoor
open Go.RowKit Go.PlainAid

theorem mapB_mapB (f g h : UInt8 → UInt8) (s : ByteArray) (e : ∀ c, f (g c) = h c) : mapB f (mapB g s) = mapB h s := by
  unfold mapB
  simp only [Array.map_map]
  congr 1
  exact Array.map_congr_left fun c _ => e c
theorem byte_of {p : UInt8 → Prop} (h : ∀ n : Fin 256, p (UInt8.ofNat n.val)) (c : UInt8) : p c := by
  have := h ⟨c.toNat, c.toNat_lt⟩
  simpa using this
theorem lowHigh : ∀ n : Fin 256, lowC (highC (UInt8.ofNat n.val)) = lowC (UInt8.ofNat n.val) := by decide +kernel
theorem highLow : ∀ n : Fin 256, highC (lowC (UInt8.ofNat n.val)) = highC (UInt8.ofNat n.val) := by decide +kernel
theorem lowLow : ∀ n : Fin 256, lowC (lowC (UInt8.ofNat n.val)) = lowC (UInt8.ofNat n.val) := by decide +kernel
theorem low_high (s : ByteArray) : low (high s) = low s := mapB_mapB _ _ _ s (byte_of (p := fun c => lowC (highC c) = lowC c) lowHigh)
theorem high_low (s : ByteArray) : high (low s) = high s := mapB_mapB _ _ _ s (byte_of (p := fun c => highC (lowC c) = highC c) highLow)
theorem low_low (s : ByteArray) : low (low s) = low s := mapB_mapB _ _ _ s (byte_of (p := fun c => lowC (lowC c) = lowC c) lowLow)
theorem mapB_append (f : UInt8 → UInt8) (a b : ByteArray) : mapB f (a ++ b) = mapB f a ++ mapB f b := by
  apply ByteArray.ext
  simp [mapB, ByteArray.data_append]
theorem low_append (a b : ByteArray) : low (a ++ b) = low a ++ low b := mapB_append _ a b
theorem parts (s : ByteArray) : s.extract 0 1 ++ s.extract 1 s.size = s := by
  apply ByteArray.ext
  apply Array.toList_inj.1
  rw [ByteArray.data_append, Array.toList_append, Lib.extract_data, Lib.extract_data]
  simp only [List.drop_zero, Nat.sub_zero]
  have h : (List.drop 1 s.data.toList).take (s.size - 1) = List.drop 1 s.data.toList := List.take_of_length_le (by rw [List.length_drop, ← Lib.size_eq]; omega)
  rw [h, List.take_append_drop]
theorem low_title (s : ByteArray) : low (titleS s) = low s := by
  unfold titleS
  split
  · rfl
  · rw [low_append, low_high, low_low, ← low_append, parts]
theorem title_size (s : ByteArray) : (titleS s).size = s.size := by
  have h := congrArg ByteArray.size (low_title s)
  rw [low_size, low_size] at h
  exact h

/-- A turn of bytes that leaves all beyond ASCII, and ASCII in itself. -/
def Keeps (f : UInt8 → UInt8) : Prop := ∀ c : UInt8, (128 ≤ c.toNat → f c = c) ∧ (c.toNat < 128 → (f c).toNat < 128)
theorem keeps_low : Keeps lowC := byte_of (p := fun c => (128 ≤ c.toNat → lowC c = c) ∧ (c.toNat < 128 → (lowC c).toNat < 128)) (by decide +kernel)
theorem keeps_high : Keeps highC := byte_of (p := fun c => (128 ≤ c.toNat → highC c = c) ∧ (c.toNat < 128 → (highC c).toNat < 128)) (by decide +kernel)
theorem keeps_bt {f : UInt8 → UInt8} (hf : Keeps f) (s : ByteArray) (k : Nat) : (128 ≤ bt s k → bt (mapB f s) k = bt s k) ∧ (bt s k < 128 → 0 ≤ bt (mapB f s) k ∧ bt (mapB f s) k < 128) := by
  by_cases h : k < s.size
  · rw [← get_bt s k h, ← get_bt (mapB f s) k (by rw [mapB_size]; exact h), mapB_get f s k h]
    obtain ⟨h1, h2⟩ := hf (s[k]'h)
    exact ⟨fun g => by rw [h1 (by omega)], fun g => by have := h2 (by omega); omega⟩
  · rw [bt_end s (by omega), bt_end (mapB f s) (by rw [mapB_size]; omega)]
    omega

set_option maxHeartbeats 4000000 in
theorem formI_keeps (n : Nat) (a0 a1 a2 a3 b0 b1 b2 b3 : Int) (h0 : (128 ≤ a0 → b0 = a0) ∧ (a0 < 128 → 0 ≤ b0 ∧ b0 < 128)) (h1 : (128 ≤ a1 → b1 = a1) ∧ (a1 < 128 → 0 ≤ b1 ∧ b1 < 128))
    (h2 : (128 ≤ a2 → b2 = a2) ∧ (a2 < 128 → 0 ≤ b2 ∧ b2 < 128)) (h3 : (128 ≤ a3 → b3 = a3) ∧ (a3 < 128 → 0 ≤ b3 ∧ b3 < 128)) (p0 : 0 ≤ a0) :
    (formI n b0 b1 b2 b3).2 = (formI n a0 a1 a2 a3).2 ∧ ((formI n b0 b1 b2 b3).1 < 0 ↔ (formI n a0 a1 a2 a3).1 < 0) := by
  by_cases e0 : a0 < 128
  · have := h0.2 e0
    unfold formI
    rw [if_pos e0, if_pos this.2]
    exact ⟨rfl, by simp only; omega⟩
  · obtain rfl := h0.1 (by omega)
    by_cases e1 : a1 < 128
    · have q1 := h1.2 e1
      unfold formI
      repeat' split
      all_goals first | (exfalso; omega) | (refine ⟨rfl, ?_⟩; first | exact Iff.rfl | (simp only; omega))
    · obtain rfl := h1.1 (by omega)
      by_cases e2 : a2 < 128
      · have q2 := h2.2 e2
        unfold formI
        repeat' split
        all_goals first | (exfalso; omega) | (refine ⟨rfl, ?_⟩; first | exact Iff.rfl | (simp only; omega))
      · obtain rfl := h2.1 (by omega)
        by_cases e3 : a3 < 128
        · have q3 := h3.2 e3
          unfold formI
          repeat' split
          all_goals first | (exfalso; omega) | (refine ⟨rfl, ?_⟩; first | exact Iff.rfl | (simp only; omega))
        · obtain rfl := h3.1 (by omega)
          exact ⟨rfl, Iff.rfl⟩
theorem formS_keeps {f : UInt8 → UInt8} (hf : Keeps f) (s : ByteArray) (i : Nat) : wd (mapB f s) i = wd s i ∧ (rn (mapB f s) i < 0 ↔ rn s i < 0) := by
  have h := formI_keeps (s.size - i) _ _ _ _ _ _ _ _ (keeps_bt hf s i) (keeps_bt hf s (i + 1)) (keeps_bt hf s (i + 2)) (keeps_bt hf s (i + 3)) (bt_nonneg s i)
  have e : formS (mapB f s) i = formI (s.size - i) (bt (mapB f s) i) (bt (mapB f s) (i + 1)) (bt (mapB f s) (i + 2)) (bt (mapB f s) (i + 3)) := by unfold formS; rw [mapB_size]
  rw [← e] at h
  have w1 := formS_wd (mapB f s) i
  have w2 := formS_wd s i
  refine ⟨?_, h.2⟩
  have := h.1
  rw [w1] at this
  have h' : (wd (mapB f s) i : Int) = (formS s i).2 := this
  omega
theorem brkF_keeps {f : UInt8 → UInt8} (hf : Keeps f) (s : ByteArray) : ∀ n pos, brkF (mapB f s) n pos = brkF s n pos
  | 0, _ => rfl
  | n + 1, pos => by
    obtain ⟨h1, h2⟩ := formS_keeps hf s pos
    simp only [brkF, mapB_size, h1, brkF_keeps hf s n]
    by_cases e : rn s pos < 0
    · rw [if_pos e, if_pos (h2.2 e)]
    · rw [if_neg e, if_neg (fun x => e (h2.1 x))]
theorem brk_low (s : ByteArray) : brk (low s) 0 = brk s 0 := by unfold brk low; rw [mapB_size]; exact brkF_keeps keeps_low s _ _
theorem brk_high (s : ByteArray) : brk (high s) 0 = brk s 0 := by unfold brk high; rw [mapB_size]; exact brkF_keeps keeps_high s _ _

theorem allB_congr {p : Int → Bool} {s t : ByteArray} (hz : t.size = s.size) (h : ∀ k, k < s.size → p (bt t k) = p (bt s k)) : allB p t = allB p s := by
  unfold allB
  rw [hz]
  congr 1
  apply propext
  exact ⟨fun g k hk => by rw [← h k hk]; exact g k hk, fun g k hk => by rw [h k hk]; exact g k hk⟩
theorem kind_bt {f : UInt8 → UInt8} {p : Int → Bool} (hp : ∀ c : UInt8, p ((f c).toNat : Int) = p (c.toNat : Int)) (s : ByteArray) (k : Nat) (hk : k < s.size) : p (bt (mapB f s) k) = p (bt s k) := by
  rw [← get_bt s k hk, ← get_bt (mapB f s) k (by rw [mapB_size]; exact hk), mapB_get f s k hk]
  exact hp _
theorem letters_low (s : ByteArray) : wordB bLetter (low s) = wordB bLetter s := by
  unfold wordB
  rw [allB_congr (low_size s) (fun k hk => kind_bt (f := lowC) (byte_of (p := fun c => bLetter ((lowC c).toNat : Int) = bLetter (c.toNat : Int)) (by decide +kernel)) s k hk), low_size]
theorem name_high (s : ByteArray) : nameB (high s) = nameB s := by
  have hs : ∀ k, k < s.size → bStart (bt (high s) k) = bStart (bt s k) := fun k hk => kind_bt (f := highC) (byte_of (p := fun c => bStart ((highC c).toNat : Int) = bStart (c.toNat : Int)) (by decide +kernel)) s k hk
  unfold nameB
  rw [allB_congr (high_size s) (fun k hk => kind_bt (f := highC) (byte_of (p := fun c => bByte ((highC c).toNat : Int) = bByte (c.toNat : Int)) (by decide +kernel)) s k hk), high_size]
  by_cases h : 0 < s.size
  · rw [hs 0 h]
  · have : decide (s.size ≠ 0) = false := decide_eq_false (by omega)
    rw [this]
    simp
end Go.Proofs.YtdihhicjaaekhaaDoor
