/-
  A part of XML, plain: where a value, an attribute, a begin and an end lead to.
-/
import Derived.Test.YtnmpbphnfiiafaaGreatDoorXmJa
namespace Go.Proofs.YtnmpbphnfiiafaaGreatDoor
open Go.RowKit Go.PlainAid

theorem valF_in {s : ByteArray} {q : Int} (hq : q ≠ 0) : ∀ {f p r : Nat} {acc v : ByteArray}, valF s q f p acc = .ok r v → p ≤ s.size → p < r ∧ r ≤ s.size
  | 0, p, r, acc, v, h, _ => by simp [valF] at h
  | f + 1, p, r, acc, v, h, hp => by
    unfold valF at h
    split at h
    · rename_i hb
      injection h with h1 h2
      have hlt : p < s.size := by
        by_cases hp : p < s.size
        · exact hp
        · rw [bt_end s (by omega)] at hb; omega
      omega
    · split at h
      · cases h
      · cases hx : pieceX s p with
        | bad e a => rw [hx] at h; cases h
        | ok p' b =>
          rw [hx] at h
          obtain ⟨h1, h2, _⟩ := piece_in hx hp
          have := valF_in hq h h2
          omega
theorem valX_in {s : ByteArray} {p r : Nat} {v : ByteArray} (h : valX s p = .ok r v) (hp : p ≤ s.size) : p < r ∧ r ≤ s.size ∧ v.size ≤ 4096 := by
  unfold valX at h
  split at h
  · rename_i hb
    have hlt : p < s.size := by
      by_cases hp : p < s.size
      · exact hp
      · rw [bt_end s (by omega)] at hb; omega
    cases hx : valF s (bt s p) (s.size + 1 - p) (p + 1) ⟨#[]⟩ with
    | bad e a => rw [hx] at h; cases h
    | ok p' w =>
      rw [hx] at h
      simp only at h
      split at h
      · cases h
      · injection h with h1 h2
        have := valF_in (by omega) hx hlt
        subst h1 h2
        omega
  · cases h
theorem start_byte {b : Int} (h : bStart b = true) : bByte b = true := by rw [bByte_eq, h]; rfl
theorem nameX_in {s : ByteArray} {p q : Nat} {nm : ByteArray} (h : nameX s p = .ok q nm) (_ : p ≤ s.size) : p < q ∧ q ≤ s.size := by
  unfold nameX at h
  split at h
  · rename_i hs
    split at h
    · cases h
    · injection h with h1 h2
      have hi := bStart_in hs
      have h3 := nmF_step (start_byte hs)
      have h4 := nmF_ge s (s.size - (p + 1)) (p + 1)
      have h5 : nmE s p = nmF s (s.size - p) p := rfl
      omega
  · cases h
theorem attrX_in {s : ByteArray} {p q : Nat} {l : List At2} {a : At2} (h : attrX s p l = .ok q a) (hp : p ≤ s.size) : p < q ∧ q ≤ s.size ∧ l.length ≠ 16 := by
  unfold attrX at h
  cases hn : nameX s p with
  | bad e a => rw [hn] at h; cases h
  | ok q1 nm =>
    rw [hn] at h
    obtain ⟨h1, h2⟩ := nameX_in hn hp
    simp only at h
    split at h
    · cases h
    · split at h
      · cases h
      · split at h
        · rename_i h61
          have hlt : q1 < s.size := by
            by_cases hp : q1 < s.size
            · exact hp
            · rw [bt_end s (by omega)] at h61; omega
          cases hv : valX s (q1 + 1) with
          | bad e a => rw [hv] at h; cases h
          | ok q2 v =>
            rw [hv] at h
            have := valX_in hv hlt
            injection h with h3 h4
            omega
        · cases h
theorem begF_in {s : ByteArray} : ∀ {f p r : Nat} {l : List At2} {x : Bool × List At2}, begF s f p l = .ok r x → p ≤ s.size → p < r ∧ r ≤ s.size
  | 0, p, r, l, x, h, _ => by simp [begF] at h
  | f + 1, p, r, l, x, h, hp => by
    have hb1 := blk_ge s p
    have hb2 := blk_le s p hp
    unfold begF at h
    split at h
    · rename_i hb
      have hlt : blk s p < s.size := by
        by_cases hp : blk s p < s.size
        · exact hp
        · rw [bt_end s (by omega)] at hb; omega
      injection h with h1 h2
      omega
    · split at h
      · split at h
        · rename_i hb
          have hlt : blk s p + 1 < s.size := by
            by_cases hp : blk s p + 1 < s.size
            · exact hp
            · rw [bt_end s (by omega)] at hb; omega
          injection h with h1 h2
          omega
        · cases h
      · split at h
        · cases h
        · cases ha : attrX s (blk s p) l with
          | bad e a => rw [ha] at h; cases h
          | ok q a =>
            rw [ha] at h
            obtain ⟨h1, h2, _⟩ := attrX_in ha hb2
            have := begF_in h h2
            omega
theorem begX_in {s : ByteArray} {p n r : Nat} {x : ByteArray × Bool × List At2} (h : begX s p n = .ok r x) (hp : p < s.size) : p + 3 ≤ r ∧ r ≤ s.size := by
  unfold begX at h
  cases hn : nameX s (p + 1) with
  | bad e a => rw [hn] at h; cases h
  | ok q nm =>
    rw [hn] at h
    obtain ⟨h1, h2⟩ := nameX_in hn hp
    simp only at h
    split at h
    · cases h
    · cases hb : begF s (s.size + 1 - q) q [] with
      | bad e a => rw [hb] at h; cases h
      | ok q' x' =>
        rw [hb] at h
        have := begF_in hb h2
        obtain ⟨sh, l⟩ := x'
        injection h with h3 h4
        omega
theorem endX_in {s : ByteArray} {p r : Nat} {top x : ByteArray} (h : endX s p top = .ok r x) (hp : p + 2 ≤ s.size) : p + 4 ≤ r ∧ r ≤ s.size := by
  unfold endX at h
  cases hn : nameX s (p + 2) with
  | bad e a => rw [hn] at h; cases h
  | ok q nm =>
    rw [hn] at h
    obtain ⟨h1, h2⟩ := nameX_in hn hp
    have hb1 := blk_ge s q
    simp only at h
    split at h
    · split at h
      · rename_i hb
        have hlt : blk s q < s.size := by
          by_cases hp : blk s q < s.size
          · exact hp
          · rw [bt_end s (by omega)] at hb; omega
        injection h with h3 h4
        omega
      · cases h
    · cases h
end Go.Proofs.YtnmpbphnfiiafaaGreatDoor
