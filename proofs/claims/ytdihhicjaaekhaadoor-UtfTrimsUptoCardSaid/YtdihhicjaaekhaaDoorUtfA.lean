/-
  The walks of utf.At, utf.Count, utf.Trim and utf.Blank, and of the reference's Count and Broken. At reads Go's two tables of utf8 (a premise on the world).
-/
import Derived.Test.YtdihhicjaaekhaaDoorRows
import Derived.Test.YtdihhicjaaekhaaDoorUtfP
import Derived.Test.YtdihhicjaaekhaaDoorUtfF
import Derived.Test.YtdihhicjaaekhaaDoorShelf
import Derived.Shelf.Strings.SlTrimAscii
import Derived.WalkKit
import Derived.WalkSpells
import Derived.WalkLawsBesides
import Derived.Lib.Hide
import Derived.Handy
import Derived.Laws.RangeString
import Derived.Laws.RangeAny
namespace Go.Proofs.YtdihhicjaaekhaaDoor
open Go.RowKit Go.PlainAid Go.Lib

/-- The two tables of unicode/utf8 as their initialisers lay them. -/
abbrev Tabs (w : World) : Prop := Lib.Utf8Tabs 0 1 w
theorem Tabs.below {B : Nat} {w w' : World} (h : Tabs w) (hB : 2 ≤ B) (hb : Below B w w') : Tabs w' :=
  ⟨fun c hc => (hb.cell (p := ⟨0, c, none⟩) (by show 0 < B; omega)).trans (h.1 c hc),
   fun i hi => ⟨(hb.cell (p := ⟨1, 2 * i, none⟩) (by show 1 < B; omega)).trans (h.2 i hi).1, (hb.cell (p := ⟨1, 2 * i + 1, none⟩) (by show 1 < B; omega)).trans (h.2 i hi).2⟩⟩

theorem Tabs.two {w : World} (h : Tabs w) : 2 ≤ w.heap.size := by
  have h1 := (h.2 0 (by omega)).1
  have h0 := h.1 0 (by omega)
  by_cases e1 : 1 < w.heap.size
  · by_cases e0 : 0 < w.heap.size
    · omega
    · exfalso
      have : w.heap[0]? = none := Array.getElem?_eq_none (by omega)
      simp [World.cell?, this] at h0
  · exfalso
    have : w.heap[1]? = none := Array.getElem?_eq_none (by omega)
    simp [World.cell?, this] at h1
/-- The tables stand in every later world. -/
theorem Tabs.later {w w' : World} (h : Tabs w) (hb : Below w.heap.size w w') : Tabs w' := h.below h.two hb

theorem bt_extract (s : ByteArray) (i k : Nat) : bt (s.extract i s.size) k = bt s (i + k) := by
  unfold bt
  by_cases h : i + k < s.size
  · rw [dif_pos (by simp; omega), dif_pos h]
    simp [ByteArray.getElem_extract]
  · rw [dif_neg (by simp; omega), dif_neg h]

theorem formS_extract (s : ByteArray) (i : Nat) : formS (s.extract i s.size) 0 = formS s i := by
  unfold formS
  rw [bt_extract, bt_extract, bt_extract, bt_extract]
  have : (s.extract i s.size).size - 0 = s.size - i := by simp
  rw [this]
  rfl

set_option maxHeartbeats 1000000 in
/-- utf.At at every text and place. -/
theorem at_any (s : ByteArray) (i : Int) (w : World) (hT : Tabs w) :
    Calls Tryd.prog 12 #[.string s, .int .i64 i] w fun e w' => e = .returned (.tuple #[.int .i32 (formZ s i).1, .int .i64 (formZ s i).2]) ∧ Below w.heap.size w w' := by
  by_cases h : i < 0 ∨ (s.size : Int) ≤ i
  · have hf : formZ s i = (-1, 0) := by unfold formZ; rw [if_pos h]
    have H := Lib.hid hf; clear hf
    by_cases h2 : i < 0
    all_goals
      go_enter Tryd.func12, Tryd.ntmps12
      go_wp2
      go_ret2
      exact ⟨ret2p H.out, Below.refl _ _⟩
  · have hf : formZ s i = formS s i.toNat := by unfold formZ; rw [if_neg h]
    obtain ⟨k, rfl⟩ := Int.eq_ofNat_of_zero_le (show 0 ≤ i by omega)
    rw [hf]; clear hf
    have hk : k < s.size := by omega
    have hd : decodeGo (s.extract k s.size) = Utf8.decode (s.extract k s.size) 0 := by
      unfold decodeGo; rw [if_neg (by simp; omega)]
    have c := Tryd.utf8_DecodeRuneInString (s.extract k s.size) w hT
    rw [hd] at c
    have hb := broke_decode (s.extract k s.size) 0
    rw [formS_extract s k] at hb
    show Calls _ _ _ _ fun e w' => e = .returned (.tuple #[.int .i32 (formS s k).1, .int .i64 (formS s k).2]) ∧ Below w.heap.size w w'
    rcases hde : Utf8.decode (s.extract k s.size) 0 with ⟨d, e⟩
    rw [hde] at c hb
    clear hde hd
    unfold broke at hb
    by_cases hq : d = 65533 ∧ e = 1
    · rw [if_pos hq] at hb
      obtain ⟨rfl, rfl⟩ := hq
      have H := Lib.hid hb; clear hb
      go_enter Tryd.func12, Tryd.ntmps12
      go_wp2_with (go_at_call 44; refine c.mono ?_; rintro e w' ⟨rfl, hB⟩)
      go_ret2
      exact ⟨ret2p H.out.symm, hB⟩
    · rw [if_neg hq] at hb
      have H := Lib.hid hb; clear hb
      by_cases h1 : d = 65533
      · have h2 : ((e : Int) == 1) = false := by simp; omega
        have h1' : ((d : Int) == 65533) = true := by simp; omega
        clear h1
        go_enter Tryd.func12, Tryd.ntmps12
        go_wp2_with (go_at_call 44; refine c.mono ?_; rintro e w' ⟨rfl, hB⟩)
        go_ret2
        exact ⟨ret2p H.out.symm, hB⟩
      · have h1' : ((d : Int) == 65533) = false := by simp; omega
        clear h1
        go_enter Tryd.func12, Tryd.ntmps12
        go_wp2_with (go_at_call 44; refine c.mono ?_; rintro e w' ⟨rfl, hB⟩)
        go_ret2
        exact ⟨ret2p H.out.symm, hB⟩
end Go.Proofs.YtdihhicjaaekhaaDoor
