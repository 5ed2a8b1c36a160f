/-
  The walks of utf.turn, Lower, Upper, Title, and of the reference's Low, High, Title: bytes turned to their other case.
-/
import Derived.Test.YtdihhicjaaekhaaDoorRows
import Derived.Test.YtdihhicjaaekhaaDoorUtfQ
import Derived.WalkKit
import Derived.WalkSpells
import Derived.WalkLawsBesides
import Derived.Lib.Hide
import Derived.Lib.ConvBytes
import Derived.Lib.SlBytesRow
import Derived.Handy
import Derived.Deep.RegionWith
import Derived.RegionTactic
namespace Go.Proofs.YtdihhicjaaekhaaDoor
open Go.RowKit Go.PlainAid

/-- '[]byte(s)': a new row that holds the text's bytes and may be written. -/
theorem conv_bytes {P : Program} (w : World) (src dst e : TypeId) (s : ByteArray) (hs : P.underlying src = some .string) (hd : P.underlying dst = some (.slice e)) (he : P.underlying e = some (.int .u8)) :
    ∃ (cap : Nat) (w1 : World), (convert src dst (.string s)).run P w = .ok (.slice (some ⟨w.heap.size, 0, none⟩) s.size cap) w1 ∧ Below w.heap.size w w1 ∧ w1.heap.size = w.heap.size + 1 ∧
      ∀ j, j < s.size → w1.cell? ⟨w.heap.size, j, none⟩ = some (.int .u8 (bt s j)) ∧ w1.frozen? ⟨w.heap.size, j, none⟩ = false := by
  refine ⟨_, _, Lib.run_convert_string_bytes w src dst e s hs hd he, ⟨rfl, rfl, rfl, by rw [Lib.bytesWorld_size]; omega, fun k hk => Lib.bytesWorld_at_old w e s k hk⟩, Lib.bytesWorld_size w e s, fun j hj => ⟨?_, ?_⟩⟩
  · rw [Lib.bytesWorld_cell w e s j hj, ← get_bt s j hj]
    simp [List.getD, hj]
    rfl
  · have h : s.size ≤ (Lib.bytesCells w e s).size := by simp [Lib.bytesCells]
    simp only [World.frozen?, Lib.bytesWorld_at_new]
    simp; omega

def lowC (c : UInt8) : UInt8 := if 65 ≤ c.toNat ∧ c.toNat ≤ 90 then c + 32 else c
def highC (c : UInt8) : UInt8 := if 97 ≤ c.toNat ∧ c.toNat ≤ 122 then c - 32 else c
def mapB (f : UInt8 → UInt8) (s : ByteArray) : ByteArray := ⟨s.data.map f⟩
theorem mapB_size (f : UInt8 → UInt8) (s : ByteArray) : (mapB f s).size = s.size := Array.size_map
theorem mapB_get (f : UInt8 → UInt8) (s : ByteArray) (k : Nat) (h : k < s.size) (h' : k < (mapB f s).size) : (mapB f s)[k]'h' = f (s[k]'h) :=
  Array.getElem_map (f := f) (xs := s.data) (i := k) h'
def low (s : ByteArray) : ByteArray := mapB lowC s
def high (s : ByteArray) : ByteArray := mapB highC s

theorem low_size (s : ByteArray) : (low s).size = s.size := mapB_size _ _
theorem high_size (s : ByteArray) : (high s).size = s.size := mapB_size _ _
theorem low_all : ∀ n : Fin 256, ((lowC (UInt8.ofNat n.val)).toNat : Int) = (if 65 ≤ (n.val : Int) ∧ (n.val : Int) < 91 then bits .xor .u8 (n.val : Int) 32 else (n.val : Int)) := by decide +kernel
theorem high_all : ∀ n : Fin 256, ((highC (UInt8.ofNat n.val)).toNat : Int) = (if 97 ≤ (n.val : Int) ∧ (n.val : Int) < 123 then bits .xor .u8 (n.val : Int) 32 else (n.val : Int)) := by decide +kernel
/-- What 'turn' makes of a byte. -/
def Turns (fr : Int) (f : UInt8 → UInt8) : Prop := ∀ c : UInt8, ((f c).toNat : Int) = (if fr ≤ (c.toNat : Int) ∧ (c.toNat : Int) < fr + 26 then bits .xor .u8 (c.toNat : Int) 32 else (c.toNat : Int))
theorem turns_low : Turns 65 lowC := fun c => by have := low_all ⟨c.toNat, c.toNat_lt⟩; simpa using this
theorem turns_high : Turns 97 highC := fun c => by have := high_all ⟨c.toNat, c.toNat_lt⟩; simpa using this

/-- The row behind k rounds: the first k bytes turned. -/
def TurnI (B : Nat) (f : UInt8 → UInt8) (s : ByteArray) (k : Nat) (w : World) : Prop :=
  ∀ j (h : j < s.size), w.cell? ⟨B, j, none⟩ = some (.int .u8 (if j < k then ((f (s[j]'h)).toNat : Int) else bt s j)) ∧ w.frozen? ⟨B, j, none⟩ = false

theorem turnI_keep {B : Nat} {f : UInt8 → UInt8} {s : ByteArray} {k : Nat} {w : World} (hk : k < s.size) (h : TurnI B f s k w) (he : ((f (s[k]'hk)).toNat : Int) = bt s k) : TurnI B f s (k + 1) w := fun j hj => by
  refine ⟨?_, (h j hj).2⟩
  rw [(h j hj).1]
  by_cases e : j = k
  · subst e
    rw [if_neg (by omega), if_pos (by omega), he]
  · by_cases e2 : j < k
    · rw [if_pos e2, if_pos (by omega)]
    · rw [if_neg e2, if_neg (by omega)]
theorem turnI_set {B : Nat} {f : UInt8 → UInt8} {s : ByteArray} {k : Nat} {w : World} (hk : k < s.size) (h : TurnI B f s k w) (x : Int) (he : ((f (s[k]'hk)).toNat : Int) = x) : TurnI B f s (k + 1) (w.setCell ⟨B, k, none⟩ (.int .u8 x)) := fun j hj => by
  refine ⟨?_, by rw [World.frozen?_setCell]; exact (h j hj).2⟩
  by_cases e : j = k
  · subst e
    rw [World.cell?_setCell_same' _ _ _ (by rw [(h j hj).1]; rfl), if_pos (by omega), he]
  · rw [World.cell?_setCell_other _ _ _ _ (by first | (simp; done) | (simp; omega)), (h j hj).1]
    by_cases e2 : j < k
    · rw [if_pos e2, if_pos (by omega)]
    · rw [if_neg e2, if_neg (by omega)]

set_option maxHeartbeats 1000000 in
theorem turn_any (fr : Int) (f : UInt8 → UInt8) (hf : Turns fr f) (h0 : 0 ≤ fr) (h1 : fr ≤ 200) (s : ByteArray) (w : World) (hs : s.size ≤ 1000000000000000) :
    Calls Tryd.prog 48 #[.string s, .int .u8 fr] w fun e w' => e = .returned (.string (mapB f s)) ∧ Below w.heap.size w w' := by
  have hb := get_bt s
  obtain ⟨cap, w1, hc, hB1, hz1, hr1⟩ := conv_bytes (P := Tryd.prog) w 9 30 5 s Tryd.underlying9 Tryd.underlying30 Tryd.underlying5
  have HF := Lib.hid hf; clear hf
  have HR := Lib.hid hr1; clear hr1
  have HZ := Lib.hid hz1; clear hz1
  go_enter Tryd.func48, Tryd.ntmps48
  go_wp2
  go_loopw [12] (fun i wr => ∃ (pos : Nat), i = .int .i64 pos ∧ pos ≤ s.size ∧ Below w.heap.size w wr ∧ TurnI w.heap.size f s pos wr) (fun i _ => s.size - (intOf i).toNat)
  case atStart => exact ⟨0, rfl, Nat.zero_le _, hB1, fun j hj => by rw [if_neg (by omega)]; exact HR.out j hj⟩
  case round =>
    obtain ⟨pos, rfl, hle, hB, hI⟩ := hrel
    have HI := Lib.hid hI; clear hI
    by_cases hp : pos < s.size
    · have l0 := bt_nonneg s pos; have u0 := bt_le s pos
      obtain ⟨hc0, hf0⟩ := HI.out pos hp
      rw [if_neg (by omega)] at hc0
      have hx := HF.out (s[pos]'hp)
      rw [get_bt s pos hp] at hx
      have HX := Lib.hid hx; clear hx
      by_cases h1 : fr ≤ bt s pos ∧ bt s pos < fr + 26
      · obtain ⟨h1, h2⟩ := h1
        go_wp2
        go_roundw
        case rel => exact ⟨pos + 1, by go_num, by omega, hB.setCell (Nat.le_refl _) _, turnI_set hp HI.out _ (by rw [HX.out, if_pos ⟨h1, h2⟩])⟩
        case measure => simp [intOf]; omega
      · by_cases h1' : fr ≤ bt s pos
        all_goals
          go_wp2
          go_roundw
          case rel => exact ⟨pos + 1, by go_num, by omega, hB, turnI_keep hp HI.out (by rw [HX.out, if_neg h1])⟩
          case measure => simp [intOf]; omega
    · have hpos : pos = s.size := by omega
      have hby : Lib.Bytes wr w.heap.size 0 (mapB f s) := fun i hi => by
        rw [mapB_size] at hi
        rw [mapB_get f s i hi, Nat.zero_add, (HI.out i hi).1, if_pos (by omega)]
      have hback := Lib.run_convert_whole (P := Tryd.prog) wr 30 5 9 Tryd.underlying30 Tryd.underlying5 Tryd.underlying9 _ _ _ hby cap
      rw [mapB_size] at hback
      clear hpos
      go_wp2
      go_ret
      exact ⟨rfl, hB⟩

set_option maxHeartbeats 400000 in
theorem lower_any (s : ByteArray) (w : World) (hs : s.size ≤ 1000000000000000) :
    Calls Tryd.prog 21 #[.string s] w fun e w' => e = .returned (.string (low s)) ∧ Below w.heap.size w w' := by
  have c := turn_any 65 lowC turns_low (by decide) (by decide) s w hs
  change Calls _ _ _ _ (fun e w' => e = .returned (.string (low s)) ∧ Below w.heap.size w w') at c
  go_enter Tryd.func21, Tryd.ntmps21
  go_wp2_with (go_at_call 48; refine c.mono ?_; rintro e w' ⟨rfl, hB⟩)
  go_ret
  exact ⟨rfl, hB⟩
set_option maxHeartbeats 400000 in
theorem upper_any (s : ByteArray) (w : World) (hs : s.size ≤ 1000000000000000) :
    Calls Tryd.prog 23 #[.string s] w fun e w' => e = .returned (.string (high s)) ∧ Below w.heap.size w w' := by
  have c := turn_any 97 highC turns_high (by decide) (by decide) s w hs
  change Calls _ _ _ _ (fun e w' => e = .returned (.string (high s)) ∧ Below w.heap.size w w') at c
  go_enter Tryd.func23, Tryd.ntmps23
  go_wp2_with (go_at_call 48; refine c.mono ?_; rintro e w' ⟨rfl, hB⟩)
  go_ret
  exact ⟨rfl, hB⟩

theorem isEmpty_of (s : ByteArray) (h : s.size = 0) : s.toList.isEmpty = true := by
  rw [Lib.toList_data]; rw [Lib.size_eq] at h
  cases e : s.data.toList <;> simp_all
theorem isEmpty_not (s : ByteArray) (h : s.size ≠ 0) : s.toList.isEmpty = false := by
  rw [Lib.toList_data]; rw [Lib.size_eq] at h
  cases e : s.data.toList <;> simp_all
/-- In small letters, with a capital ahead. -/
def titleS (s : ByteArray) : ByteArray := if s.size = 0 then s else high (s.extract 0 1) ++ low (s.extract 1 s.size)

set_option maxHeartbeats 400000 in
theorem title_any (s : ByteArray) (w : World) (hs : s.size ≤ 1000000000000000) :
    Calls Tryd.prog 25 #[.string s] w fun e w' => e = .returned (.string (titleS s)) ∧ Below w.heap.size w w' := by
  by_cases h0 : s.size = 0
  · have hne := isEmpty_of s h0
    have HT := Lib.hid (show titleS s = s from if_pos h0)
    clear h0
    go_enter Tryd.func25, Tryd.ntmps25
    go_wp2
    go_ret
    exact ⟨by rw [HT.out]; rfl, Below.refl _ _⟩
  · have hne := isEmpty_not s h0
    have HT := Lib.hid (show titleS s = high (s.extract 0 1) ++ low (s.extract 1 s.size) from if_neg h0)
    have e1 : (high (s.extract 0 1)).size ≤ 1 := by rw [high_size]; simp; omega
    have e2 : (low (s.extract 1 s.size)).size ≤ s.size := by rw [low_size]; simp
    go_enter Tryd.func25, Tryd.ntmps25
    go_wp2
    go_region_with (first | (go_at_call 23; refine (upper_any _ _ (by simp; omega)).mono ?_; rintro e w' ⟨rfl, hB1⟩) | (go_at_call 21; refine (lower_any _ _ (by simp; omega)).mono ?_; rintro e w' ⟨rfl, hB2⟩))
    all_goals go_wp2
    all_goals go_ret
    all_goals exact ⟨by rw [HT.out]; rfl, (((Below.refl _ w).drew).trans hB1).trans (hB2.mono hB1.size)⟩

theorem lowA_all : ∀ n : Fin 256, ((lowC (UInt8.ofNat n.val)).toNat : Int) = (if 65 ≤ (n.val : Int) ∧ (n.val : Int) ≤ 90 then (n.val : Int) + 32 else (n.val : Int)) := by decide +kernel
theorem highA_all : ∀ n : Fin 256, ((highC (UInt8.ofNat n.val)).toNat : Int) = (if 97 ≤ (n.val : Int) ∧ (n.val : Int) ≤ 122 then (n.val : Int) - 32 else (n.val : Int)) := by decide +kernel
theorem lowA (c : UInt8) : ((lowC c).toNat : Int) = (if 65 ≤ (c.toNat : Int) ∧ (c.toNat : Int) ≤ 90 then (c.toNat : Int) + 32 else (c.toNat : Int)) := by have := lowA_all ⟨c.toNat, c.toNat_lt⟩; simpa using this
theorem highA (c : UInt8) : ((highC c).toNat : Int) = (if 97 ≤ (c.toNat : Int) ∧ (c.toNat : Int) ≤ 122 then (c.toNat : Int) - 32 else (c.toNat : Int)) := by have := highA_all ⟨c.toNat, c.toNat_lt⟩; simpa using this

set_option maxHeartbeats 1000000 in
theorem rLow_any (s : ByteArray) (w : World) (hs : s.size ≤ 1000000000000000) :
    Calls Tryd.prog 22 #[.string s] w fun e w' => e = .returned (.string (low s)) ∧ Below w.heap.size w w' := by
  have hb := get_bt s
  obtain ⟨cap, w1, hc, hB1, hz1, hr1⟩ := conv_bytes (P := Tryd.prog) w 9 30 5 s Tryd.underlying9 Tryd.underlying30 Tryd.underlying5
  have HR := Lib.hid hr1; clear hr1
  have HZ := Lib.hid hz1; clear hz1
  go_enter Tryd.func22, Tryd.ntmps22
  go_wp2
  go_loopw [10] (fun i wr => ∃ (pos : Nat), i = .int .i64 pos ∧ pos ≤ s.size ∧ Below w.heap.size w wr ∧ TurnI w.heap.size lowC s pos wr) (fun i _ => s.size - (intOf i).toNat)
  case atStart => exact ⟨0, rfl, Nat.zero_le _, hB1, fun j hj => by rw [if_neg (by omega)]; exact HR.out j hj⟩
  case round =>
    obtain ⟨pos, rfl, hle, hB, hI⟩ := hrel
    have HI := Lib.hid hI; clear hI
    by_cases hp : pos < s.size
    · have l0 := bt_nonneg s pos; have u0 := bt_le s pos
      obtain ⟨hc0, hf0⟩ := HI.out pos hp
      rw [if_neg (by omega)] at hc0
      have hx := lowA (s[pos]'hp)
      rw [get_bt s pos hp] at hx
      have HX := Lib.hid hx; clear hx
      by_cases h1 : 65 ≤ bt s pos ∧ bt s pos ≤ 90
      · obtain ⟨h1, h2⟩ := h1
        go_wp2
        go_roundw
        case rel => exact ⟨pos + 1, by go_num, by omega, hB.setCell (Nat.le_refl _) _, turnI_set hp HI.out _ (by rw [HX.out, if_pos ⟨h1, h2⟩])⟩
        case measure => simp [intOf]; omega
      · by_cases h1' : 65 ≤ bt s pos
        all_goals
          go_wp2
          go_roundw
          case rel => exact ⟨pos + 1, by go_num, by omega, hB, turnI_keep hp HI.out (by rw [HX.out, if_neg h1])⟩
          case measure => simp [intOf]; omega
    · have hpos : pos = s.size := by omega
      have hby : Lib.Bytes wr w.heap.size 0 (mapB lowC s) := fun i hi => by
        rw [mapB_size] at hi
        rw [mapB_get lowC s i hi, Nat.zero_add, (HI.out i hi).1, if_pos (by omega)]
      have hback := Lib.run_convert_whole (P := Tryd.prog) wr 30 5 9 Tryd.underlying30 Tryd.underlying5 Tryd.underlying9 _ _ _ hby cap
      rw [mapB_size] at hback
      clear hpos
      go_wp2
      go_ret
      exact ⟨rfl, hB⟩
set_option maxHeartbeats 1000000 in
theorem rHigh_any (s : ByteArray) (w : World) (hs : s.size ≤ 1000000000000000) :
    Calls Tryd.prog 24 #[.string s] w fun e w' => e = .returned (.string (high s)) ∧ Below w.heap.size w w' := by
  have hb := get_bt s
  obtain ⟨cap, w1, hc, hB1, hz1, hr1⟩ := conv_bytes (P := Tryd.prog) w 9 30 5 s Tryd.underlying9 Tryd.underlying30 Tryd.underlying5
  have HR := Lib.hid hr1; clear hr1
  have HZ := Lib.hid hz1; clear hz1
  go_enter Tryd.func24, Tryd.ntmps24
  go_wp2
  go_loopw [10] (fun i wr => ∃ (pos : Nat), i = .int .i64 pos ∧ pos ≤ s.size ∧ Below w.heap.size w wr ∧ TurnI w.heap.size highC s pos wr) (fun i _ => s.size - (intOf i).toNat)
  case atStart => exact ⟨0, rfl, Nat.zero_le _, hB1, fun j hj => by rw [if_neg (by omega)]; exact HR.out j hj⟩
  case round =>
    obtain ⟨pos, rfl, hle, hB, hI⟩ := hrel
    have HI := Lib.hid hI; clear hI
    by_cases hp : pos < s.size
    · have l0 := bt_nonneg s pos; have u0 := bt_le s pos
      obtain ⟨hc0, hf0⟩ := HI.out pos hp
      rw [if_neg (by omega)] at hc0
      have hx := highA (s[pos]'hp)
      rw [get_bt s pos hp] at hx
      have HX := Lib.hid hx; clear hx
      by_cases h1 : 97 ≤ bt s pos ∧ bt s pos ≤ 122
      · obtain ⟨h1, h2⟩ := h1
        go_wp2
        go_roundw
        case rel => exact ⟨pos + 1, by go_num, by omega, hB.setCell (Nat.le_refl _) _, turnI_set hp HI.out _ (by rw [HX.out, if_pos ⟨h1, h2⟩])⟩
        case measure => simp [intOf]; omega
      · by_cases h1' : 97 ≤ bt s pos
        all_goals
          go_wp2
          go_roundw
          case rel => exact ⟨pos + 1, by go_num, by omega, hB, turnI_keep hp HI.out (by rw [HX.out, if_neg h1])⟩
          case measure => simp [intOf]; omega
    · have hpos : pos = s.size := by omega
      have hby : Lib.Bytes wr w.heap.size 0 (mapB highC s) := fun i hi => by
        rw [mapB_size] at hi
        rw [mapB_get highC s i hi, Nat.zero_add, (HI.out i hi).1, if_pos (by omega)]
      have hback := Lib.run_convert_whole (P := Tryd.prog) wr 30 5 9 Tryd.underlying30 Tryd.underlying5 Tryd.underlying9 _ _ _ hby cap
      rw [mapB_size] at hback
      clear hpos
      go_wp2
      go_ret
      exact ⟨rfl, hB⟩

theorem eq_empty (s : ByteArray) (h : s.size = 0) : s = ⟨#[]⟩ := by
  cases s with
  | mk d => exact congrArg ByteArray.mk (Array.eq_empty_of_size_eq_zero h)

set_option maxHeartbeats 400000 in
theorem rTitle_any (s : ByteArray) (w : World) (hs : s.size ≤ 1000000000000000) :
    Calls Tryd.prog 26 #[.string s] w fun e w' => e = .returned (.string (titleS s)) ∧ Below w.heap.size w w' := by
  by_cases h0 : s.size = 0
  · have hne := isEmpty_of s h0
    have HT := Lib.hid (show titleS s = ⟨#[]⟩ from (if_pos h0).trans (eq_empty s h0))
    clear h0
    go_enter Tryd.func26, Tryd.ntmps26
    go_wp2
    go_ret
    exact ⟨by rw [HT.out]; rfl, Below.refl _ _⟩
  · have hne := isEmpty_not s h0
    have HT := Lib.hid (show titleS s = high (s.extract 0 1) ++ low (s.extract 1 s.size) from if_neg h0)
    have e1 : (high (s.extract 0 1)).size ≤ 1 := by rw [high_size]; simp; omega
    have e2 : (low (s.extract 1 s.size)).size ≤ s.size := by rw [low_size]; simp
    go_enter Tryd.func26, Tryd.ntmps26
    go_wp2
    go_region_with (first | (go_at_call 24; refine (rHigh_any _ _ (by simp; omega)).mono ?_; rintro e w' ⟨rfl, hB1⟩) | (go_at_call 22; refine (rLow_any _ _ (by simp; omega)).mono ?_; rintro e w' ⟨rfl, hB2⟩))
    all_goals go_wp2
    all_goals go_ret
    all_goals exact ⟨by rw [HT.out]; rfl, (((Below.refl _ w).drew).trans hB1).trans (hB2.mono hB1.size)⟩
end Go.Proofs.YtdihhicjaaekhaaDoor
