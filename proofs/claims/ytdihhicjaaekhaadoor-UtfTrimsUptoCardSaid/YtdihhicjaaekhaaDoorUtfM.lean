/-
  The walks of utf.Trim and of the reference's Trim: a text without the blanks at its two ends.
-/
import Derived.Test.YtdihhicjaaekhaaDoorRows
import Derived.Test.YtdihhicjaaekhaaDoorUtfQ
import Derived.Test.YtdihhicjaaekhaaDoorUtfK
import Derived.Test.YtdihhicjaaekhaaDoorUtfT
import Derived.Test.YtdihhicjaaekhaaDoorShelf
import Derived.Shelf.Strings.SlTrimAscii
import Derived.WalkKit
import Derived.WalkSpells
import Derived.WalkLawsBesides
import Derived.Lib.Hide
import Derived.Handy
namespace Go.Proofs.YtdihhicjaaekhaaDoor
open Go.RowKit Go.PlainAid

theorem bt_sub (s : ByteArray) (a b k : Nat) (h : k < b - a) (hb : b ≤ s.size) : bt (s.extract a b) k = bt s (a + k) := by
  unfold bt
  rw [dif_pos (by simp; omega), dif_pos (by omega)]
  simp [ByteArray.getElem_extract]
theorem size_sub (s : ByteArray) (a b : Nat) (hb : b ≤ s.size) : (s.extract a b).size = b - a := by simp; omega

/-- r is s without the blanks at its ends. -/
def IsTrim (s r : ByteArray) : Prop :=
  ∃ a b, a ≤ b ∧ b ≤ s.size ∧ r = s.extract a b ∧ (∀ k, k < a → bBlank (bt s k) = true) ∧ (∀ k, b ≤ k → k < s.size → bBlank (bt s k) = true) ∧ (a < b → bBlank (bt s a) = false ∧ bBlank (bt s (b - 1)) = false)
theorem isTrim_one {s r r' : ByteArray} (h : IsTrim s r) (h' : IsTrim s r') : r = r' := by
  obtain ⟨a, b, h1, h2, rfl, h3, h4, h5⟩ := h
  obtain ⟨a', b', h1', h2', rfl, h3', h4', h5'⟩ := h'
  have no : ∀ k, bBlank (bt s k) = true → bBlank (bt s k) = false → False := fun k x y => by rw [x] at y; cases y
  by_cases e : a < b
  · obtain ⟨p, q⟩ := h5 e
    have x1 : ¬ a < a' := fun hh => no _ (h3' a hh) p
    have x2 : ¬ b' ≤ b - 1 := fun hh => no _ (h4' (b - 1) hh (by omega)) q
    have e' : a' < b' := by omega
    obtain ⟨p', q'⟩ := h5' e'
    have x3 : ¬ a' < a := fun hh => no _ (h3 a' hh) p'
    have x4 : ¬ b ≤ b' - 1 := fun hh => no _ (h4 (b' - 1) hh (by omega)) q'
    obtain rfl : a = a' := by omega
    obtain rfl : b = b' := by omega
    rfl
  · by_cases e' : a' < b'
    · obtain ⟨p', q'⟩ := h5' e'
      exfalso
      by_cases x : a' < a
      · exact no _ (h3 a' x) p'
      · exact no _ (h4 a' (by omega) (by omega)) p'
    · obtain rfl : a = b := by omega
      obtain rfl : a' = b' := by omega
      rw [eq_empty (s.extract a a) (by rw [size_sub _ _ _ h2]; omega), eq_empty (s.extract a' a') (by rw [size_sub _ _ _ h2']; omega)]

theorem first_non (p : Nat → Bool) : ∀ n, ∃ k, k ≤ n ∧ (∀ j, j < k → p j = true) ∧ (k < n → p k = false)
  | 0 => ⟨0, Nat.le_refl _, fun j h => absurd h (by omega), fun h => absurd h (by omega)⟩
  | n + 1 => by
    obtain ⟨k, h1, h2, h3⟩ := first_non p n
    by_cases e : k < n
    · exact ⟨k, by omega, h2, fun _ => h3 e⟩
    · obtain rfl : k = n := by omega
      cases hp : p k with
      | false => exact ⟨k, by omega, h2, fun _ => hp⟩
      | true => exact ⟨k + 1, by omega, fun j hj => by
          by_cases e : j = k
          · rw [e]; exact hp
          · exact h2 j (by omega), fun h => absurd h (by omega)⟩
theorem last_non (p : Nat → Bool) : ∀ n, ∃ k, k ≤ n ∧ (∀ j, k ≤ j → j < n → p j = true) ∧ (0 < k → p (k - 1) = false)
  | 0 => ⟨0, Nat.le_refl _, fun j _ h => absurd h (by omega), fun h => absurd h (by omega)⟩
  | n + 1 => by
    cases hp : p n with
    | false => exact ⟨n + 1, Nat.le_refl _, fun j h h' => absurd h (by omega), fun _ => hp⟩
    | true =>
      obtain ⟨k, h1, h2, h3⟩ := last_non p n
      exact ⟨k, by omega, fun j a b => by
        by_cases e : j = n
        · rw [e]; exact hp
        · exact h2 j a (by omega), h3⟩

theorem set_all : ∀ n : Fin 256, ([9, 10, 13, 32] : List UInt8).contains (UInt8.ofNat n.val) = bBlank (n.val : Int) := by decide +kernel
theorem set_at (c : UInt8) : ([9, 10, 13, 32] : List UInt8).contains c = bBlank (c.toNat : Int) := by have := set_all ⟨c.toNat, c.toNat_lt⟩; simpa using this
theorem list_bt (s : ByteArray) (j : Nat) (b : UInt8) (h : s.data.toList[j]? = some b) : j < s.size ∧ (b.toNat : Int) = bt s j := by
  obtain ⟨hj, e⟩ := List.getElem?_eq_some_iff.1 h
  have hj' : j < s.size := by rw [Lib.size_eq]; exact hj
  refine ⟨hj', ?_⟩
  rw [← get_bt s j hj', ← e]
  rfl
theorem trimS_is (s : ByteArray) : IsTrim s ⟨(Lib.trimS s.data.toList [9, 10, 13, 32]).toArray⟩ := by
  obtain ⟨b, hb1, hb2, hb3⟩ := last_non (fun k => bBlank (bt s k)) s.size
  have hl : s.size = s.data.toList.length := Lib.size_eq s
  have hR : Lib.trimRightS s.data.toList [9, 10, 13, 32] = s.data.toList.take b :=
    Lib.trimRightS_take _ _ b (by omega) (fun j c hj hc => by
      obtain ⟨x, y⟩ := list_bt s j c hc
      rw [set_at, y]; exact hb2 j hj x) (fun c h0 hc => by
      obtain ⟨x, y⟩ := list_bt s _ c hc
      rw [set_at, y]; exact hb3 h0)
  obtain ⟨a, ha1, ha2, ha3⟩ := first_non (fun k => bBlank (bt s k)) b
  have hL : Lib.trimLeftS (s.data.toList.take b) [9, 10, 13, 32] = (s.data.toList.take b).drop a :=
    Lib.trimLeftS_drop _ _ a (by simp; omega) (fun j c hj hc => by
      rw [List.getElem?_take_of_lt (by omega)] at hc
      obtain ⟨x, y⟩ := list_bt s j c hc
      rw [set_at, y]; exact ha2 j hj) (fun c hc => by
      by_cases e : a < b
      · rw [List.getElem?_take_of_lt e] at hc
        obtain ⟨x, y⟩ := list_bt s a c hc
        rw [set_at, y]; exact ha3 e
      · rw [List.getElem?_eq_none (by simp; omega)] at hc; cases hc)
  refine ⟨a, b, ha1, hb1, ?_, ha2, hb2, fun h => ⟨ha3 h, hb3 (by omega)⟩⟩
  unfold Lib.trimS
  rw [hR, hL]
  apply ByteArray.ext
  apply Array.toList_inj.1
  rw [Lib.extract_data, List.drop_take]

/-- A text without the blanks at its ends. -/
def trimB (s : ByteArray) : ByteArray := ⟨(Lib.trimS s.data.toList [9, 10, 13, 32]).toArray⟩

set_option maxHeartbeats 1000000 in
theorem trim_any (s : ByteArray) (w : World) (hs : s.size ≤ 1000000000000000) :
    Calls Tryd.prog 40 #[.string s] w fun e w' => e = .returned (.string (trimB s)) ∧ Below w.heap.size w w' := by
  have hcon := Any.strings_Trim_laid Tryd.lays160 (by kernel_rfl) s ⟨#[9, 10, 13, 32]⟩ w (by omega) (by decide) (ascii_of_all (by decide))
  change Calls Tryd.prog 50 _ _ (fun e w' => e = .returned (.string (trimB s)) ∧ Below w.heap.size w w') at hcon
  generalize trimB s = r at hcon ⊢
  go_enter Tryd.func40, Tryd.ntmps40
  go_wp2_with (go_at_call 50; refine hcon.mono ?_; rintro e w' ⟨rfl, hB⟩)
  go_ret
  exact ⟨rfl, hB⟩
end Go.Proofs.YtdihhicjaaekhaaDoor
