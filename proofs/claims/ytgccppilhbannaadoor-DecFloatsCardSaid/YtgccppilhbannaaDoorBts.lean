/-
  Slices of bytes that are read; the bytes of a text; dec.plus.
-/
import Derived.Test.YtgccppilhbannaaDoorRowP
import Derived.Test.YtgccppilhbannaaDoorDecW
import Derived.Test.YtgccppilhbannaaDoorDecS
import Derived.Lib.ConvBytes
import Derived.Lib.SmallJoins
import Derived.IntWalk
import Derived.Lib.Hide
import Derived.Deep.OwnRows
import Derived.Deep.QuietTactic
import Derived.BigQuiet
import Derived.Handy
import Derived.Outline
namespace Go.Proofs.YtgccppilhbannaaDoor
open Go.RowKit Go.PlainAid

/-- A slice of bytes that reads as a text. -/
def Bts (w : World) (v : Value) (s : ByteArray) : Prop :=
  ∃ g o cap, v = .slice (some ⟨g, o, none⟩) s.size cap ∧ g < w.heap.size ∧ s.size ≤ cap ∧ cap ≤ maxLen ∧ ∀ j, j < s.size → w.cell? ⟨g, o + j, none⟩ = some (.int .u8 (bt s j))
theorem Bts.later {B : Nat} {w w' : World} {v : Value} {s : ByteArray} (h : Bts w v s) (hb : Below B w w') (hB : w.heap.size ≤ B) : Bts w' v s := by
  obtain ⟨g, o, cap, hv, hg, hc, hm, hcell⟩ := h
  exact ⟨g, o, cap, hv, Nat.lt_of_lt_of_le hg hb.size, hc, hm, fun j hj => (hb.cell (p := ⟨g, o + j, none⟩) (by show g < B; omega)).trans (hcell j hj)⟩
theorem bts_new (W : World) (s : ByteArray) (h : s.size ≤ 1000000000000) : Bts (Lib.bytesWorld W 5 s) (.slice (some ⟨W.heap.size, 0, none⟩) s.size (grownCap W s.size 0 5)) s := by
  refine ⟨W.heap.size, 0, _, rfl, by rw [Lib.bytesWorld_size]; omega, grownCap_ge _ _ _ _, grownCap_le_maxLen _ _ _ _ (by unfold maxLen; omega), fun j hj => ?_⟩
  rw [Nat.zero_add, Lib.bytesWorld_cell W _ s j hj, ← get_bt s j hj]
  congr 3
  rw [List.getD_eq_getElem?_getD, List.getElem?_eq_getElem (by rw [← Lib.size_eq]; exact hj)]
  rfl
theorem below_bytes (W : World) (s : ByteArray) : Below W.heap.size W (Lib.bytesWorld W 5 s) := Go.Joins.below_bytesWorld _ _ _ _ (Nat.le_refl _)
theorem conv_bytes (W : World) (s : ByteArray) : (convert 9 76 (.string s)).run Tryd.prog W = .ok (.slice (some ⟨W.heap.size, 0, none⟩) s.size (grownCap W s.size 0 5)) (Lib.bytesWorld W 5 s) :=
  Lib.run_convert_string_bytes W _ _ _ s Tryd.underlying9 Tryd.underlying76 Tryd.underlying5

theorem outI_drewN {B n i : Nat} {l : List Nat} {w : World} (h : OutI B n l i w) (q : Nat) : OutI B n l i (w.drewN q) := fun j hj => by
  have h1 := h j hj
  exact ⟨by simpa using h1.1, by simpa using h1.2⟩
/-- The digits of a text, the lowest first. -/
def low (s : ByteArray) : List Nat := (dl s).reverse
theorem low_length (s : ByteArray) : (low s).length = s.size := by rw [low, List.length_reverse, dl_length]
theorem low_lt {s : ByteArray} (h : AllDig s) : ∀ d ∈ low s, d < 10 := fun d hd => dl_lt h d (by simpa [low] using hd)
theorem low_get {s : ByteArray} (h : AllDig s) (q m : Nat) (hq : q < s.size) (hm : m + q + 1 = s.size) : bt s q = 48 + (((low s).getD m 0 : Nat) : Int) := by
  have h1 := dl_get s q hq
  have h2 := h q hq
  have e : (low s).getD m 0 = (dl s)[q]'(by rw [dl_length]; exact hq) := by
    unfold low
    rw [List.getD_eq_getElem?_getD, List.getElem?_eq_getElem (by rw [List.length_reverse, dl_length]; omega), List.getElem_reverse]
    simp only [dl_length, Option.getD_some]
    congr 1
    omega
  rw [e]
  omega
/-- The sum of two texts of digits of one length, as a text of one digit more. -/
def sumL (s t : ByteArray) : List Nat := addL (low s) (low t) s.size ++ [addC (low s) (low t) s.size]
def plusS (s t : ByteArray) : ByteArray := textL (sumL s t).reverse
theorem sumL_length (s t : ByteArray) : (sumL s t).length = s.size + 1 := by simp [sumL, addL_length]
theorem sumL_lt {s t : ByteArray} (hs : AllDig s) (ht : AllDig t) : ∀ d ∈ sumL s t, d < 10 := fun d hd => by
  rcases List.mem_append.1 hd with h | h
  · exact addL_lt _ _ _ d h
  · have := addC_le (low_lt hs) (low_lt ht) s.size
    simp at h
    omega
theorem plusS_dig {s t : ByteArray} (hs : AllDig s) (ht : AllDig t) : AllDig (plusS s t) := textL_dig fun d hd => sumL_lt hs ht d (by simpa using hd)
theorem plusS_size (s t : ByteArray) : (plusS s t).size = s.size + 1 := by rw [plusS, textL_size, List.length_reverse, sumL_length]
theorem dval_plusS {s t : ByteArray} (hs : AllDig s) (ht : AllDig t) (hz : s.size = t.size) : dval (plusS s t) = dval s + dval t := by
  unfold plusS
  rw [dval_textL _ (fun d hd => sumL_lt hs ht d (by simpa using hd)), List.reverse_reverse]
  exact addL_all (by rw [low_length]; omega) (by rw [low_length]; omega)
theorem sumL_get {s t : ByteArray} (m : Nat) (hm : m < s.size) : (sumL s t)[m]'(by rw [sumL_length]; omega) = addD (low s) (low t) m := by
  simp only [sumL]
  rw [List.getElem_append_left (by rw [addL_length]; exact hm)]
  simp [addL]
theorem sumL_last (s t : ByteArray) : (sumL s t)[s.size]'(by rw [sumL_length]; omega) = addC (low s) (low t) s.size := by
  simp only [sumL]
  rw [List.getElem_append_right (by rw [addL_length]; omega)]
  simp [addL_length]

set_option maxRecDepth 100000 in
set_option maxHeartbeats 2000000 in
theorem plus_any (vx vy : Value) (s t : ByteArray) (w : World) (hvx : Bts w vx s) (hvy : Bts w vy t) (hz : s.size = t.size) (hb : s.size ≤ 1000000) (hs : AllDig s) (ht : AllDig t) :
    Calls Tryd.prog 56 #[vx, vy] w fun e w' => e = .returned (.string (plusS s t)) ∧ Below w.heap.size w w' := by
  obtain ⟨gx, ox, cx, rfl, hgx, hcx, hmx, hx⟩ := hvx
  obtain ⟨gy, oy, cy, rfl, hgy, hcy, hmy, hy⟩ := hvy
  rw [← hz] at hcy hy ⊢
  have HX := Lib.hid hx; have HY := Lib.hid hy
  clear hx hy
  have HC := Lib.hid (addC_le (low_lt hs) (low_lt ht))
  have HLX := Lib.hid (getD_lt (low_lt hs)); have HLY := Lib.hid (getD_lt (low_lt ht))
  have HGX := Lib.hid (fun q m hq hm => low_get hs q m hq hm)
  have HGY := Lib.hid (fun q m (hq : q < t.size) hm => low_get ht q m hq hm)
  have HSL := Lib.hid (sumL_length s t); have HS10 := Lib.hid (sumL_lt hs ht)
  have HG := Lib.hid (fun m hm => sumL_get (s := s) (t := t) m hm); have HL := Lib.hid (sumL_last s t)
  have HP := Lib.hid (show plusS s t = textL (sumL s t).reverse from rfl)
  have hPZ := plusS_size s t
  have HPZ := Lib.hid hPZ
  have HZ := Lib.hid hz
  clear hs ht hPZ hz
  have hmk : ∀ W : World, (Instr.makeSlice 76 (.int .i64 ((s.size : Int) + 1)) (.int .i64 ((s.size : Int) + 1))).run Tryd.prog W = .ok (.slice (some ⟨W.heap.size, 0, none⟩) (s.size + 1) (s.size + 1)) (W.alloc (.cells (madeCells #[.int .u8 0] (s.size + 1)) 5)) := fun W => run_make_row' (P := Tryd.prog) 76 5 (.int .u8 0) 1 Tryd.underlying76 infoByte rfl .i64 .i64 (s.size + 1) (by omega) (by omega) W
  go_enter Tryd.func56, Tryd.ntmps56
  go_wp2_with fail
  have hO : OutI w.heap.size (s.size + 1) (sumL s t) 0 (w.alloc (.cells (madeCells #[.int .u8 0] (s.size + 1)) 5)) := fun j hj => by
    refine ⟨?_, ?_⟩
    · rw [World.cell?_alloc_mark, ← Array.getElem?_toList, toList_madeCells_one, List.getElem?_replicate, if_pos hj, if_neg (by omega)]
    · rw [World.frozen?_alloc_mark]; simp
  have hB0 : Below w.heap.size w (w.alloc (.cells (madeCells #[.int .u8 0] (s.size + 1)) 5)) := (Below.refl _ _).alloc (Nat.le_refl _) _
  have hsz0 : (w.alloc (.cells (madeCells #[.int .u8 0] (s.size + 1)) 5)).heap.size = w.heap.size + 1 := World.size_alloc _ _
  have HO := Lib.hid hO
  clear hO hmk
  generalize w.alloc (.cells (madeCells #[.int .u8 0] (s.size + 1)) 5) = W1 at *
  have HSZ0 := Lib.hid hsz0; clear hsz0
  go_loopw [6, 7] (fun c i wr => ∃ p : Nat, p ≤ s.size ∧ i = .int .i64 ((p : Int) - 1) ∧ c = .int .u8 ((addC (low s) (low t) (s.size - p) : Nat) : Int) ∧ Below w.heap.size w wr ∧ OutI w.heap.size (s.size + 1) (sumL s t) (s.size - p) wr) (fun _ i _ => (intOf i + 1).toNat)
  case atStart => exact ⟨s.size, Nat.le_refl _, rfl, by rw [Nat.sub_self]; rfl, hB0, by rw [Nat.sub_self]; exact HO.out⟩
  case round =>
    obtain ⟨p, hp, rfl, rfl, hB, hI⟩ := hrel
    have HI := Lib.hid hI; clear hI
    have hsz := hB.size
    cases p with
    | zero =>
      have hc1 := HC.out s.size
      have h0 := (HI.out 0 (by omega)).1
      have f0 := (HI.out 0 (by omega)).2
      have hset := outI_set HI.out (by omega) (by have := HSL.out; omega)
      simp only [Nat.sub_zero, Nat.sub_self, HL.out] at hset
      simp only [Nat.sub_zero]
      have hby := outI_text hset (by have := HSL.out; omega) HS10.out
      rw [List.take_of_length_le (by have := HSL.out; omega), ← HP.out] at hby
      have HBY := Lib.hid hby
      clear hset hby
      generalize addC (low s) (low t) s.size = c at *
      have hback := Lib.run_convert_whole (P := Tryd.prog) (wr.setCell ⟨w.heap.size, 0, none⟩ (.int .u8 (48 + (c : Int)))) 76 5 9 Tryd.underlying76 Tryd.underlying5 Tryd.underlying9 _ _ _ HBY.out (s.size + 1)
      rw [HPZ.out] at hback
      have hBs := hB.setCell (p := ⟨w.heap.size, 0, none⟩) (Nat.le_refl _) (.int .u8 (48 + (c : Int)))
      go_wp2_with fail
      go_ret
      exact ⟨rfl, hBs⟩
    | succ q =>
      rw [show ((q + 1 : Nat) : Int) - 1 = (q : Int) by omega]
      have c1 := HC.out (s.size - (q + 1))
      have x1 := HLX.out (s.size - (q + 1))
      have y1 := HLY.out (s.size - (q + 1))
      have hx := (hB.cell (p := ⟨gx, ox + q, none⟩) hgx).trans (HX.out q (by omega))
      have hy := (hB.cell (p := ⟨gy, oy + q, none⟩) hgy).trans (HY.out q (by omega))
      rw [HGX.out q (s.size - (q + 1)) (by omega) (by omega)] at hx
      rw [HGY.out q (s.size - (q + 1)) (by have := HZ.out; omega) (by have := HZ.out; omega)] at hy
      have h0 := (HI.out (q + 1) (by omega)).1
      have f0 := (HI.out (q + 1) (by omega)).2
      rw [if_neg (by omega)] at h0
      have hset := fun n => outI_set (outI_drewN HI.out n) (by omega) (by have := HSL.out; omega)
      simp only [HG.out (s.size - (q + 1)) (by omega), show s.size - (s.size - (q + 1)) = q + 1 by omega, show s.size - (q + 1) + 1 = s.size - q by omega] at hset
      have HSET := Lib.hid hset
      have hd : (((low s).getD (s.size - (q + 1)) 0 + (low t).getD (s.size - (q + 1)) 0 + addC (low s) (low t) (s.size - (q + 1)) : Nat) : Int) % 10 = ((addD (low s) (low t) (s.size - (q + 1)) : Nat) : Int) := by unfold addD; omega
      have hcn : (((low s).getD (s.size - (q + 1)) 0 + (low t).getD (s.size - (q + 1)) 0 + addC (low s) (low t) (s.size - (q + 1)) : Nat) : Int) / 10 = ((addC (low s) (low t) (s.size - q) : Nat) : Int) := by
        rw [show s.size - q = s.size - (q + 1) + 1 by omega]
        simp only [addC]
        omega
      have HD := Lib.hid hd; have HCN := Lib.hid hcn
      clear hset hd hcn
      generalize (low s).getD (s.size - (q + 1)) 0 = x at *
      generalize (low t).getD (s.size - (q + 1)) 0 = y at *
      generalize addC (low s) (low t) (s.size - (q + 1)) = c at *
      generalize addD (low s) (low t) (s.size - (q + 1)) = d at *
      have e1 : IntKind.u8.wrap (48 + (x : Int) - 48) = x := by rw [show 48 + (x : Int) - 48 = x by omega]; exact IntWalk.u8_in _ (by omega)
      have e1' : IntKind.u8.wrap (x : Int) = x := IntWalk.u8_in _ (by omega)
      have e2 : IntKind.u8.wrap ((x : Int) + (48 + (y : Int))) = (x : Int) + (48 + (y : Int)) := IntWalk.u8_in _ (by omega)
      have e3 : IntKind.u8.wrap ((x : Int) + (48 + (y : Int)) - 48) = (x : Int) + (y : Int) := by rw [show (x : Int) + (48 + (y : Int)) - 48 = x + y by omega]; exact IntWalk.u8_in _ (by omega)
      have e4 : IntKind.u8.wrap ((x : Int) + (y : Int) + (c : Int)) = (x : Int) + (y : Int) + (c : Int) := IntWalk.u8_in _ (by omega)
      go_wp2_with fail
      go_quiet (fail)
      clear e1 e1' e2 e3 e4
      have hBN := below_drewN hB nq
      have hd := HD.out
      have hcn := HCN.out
      push_cast at hd hcn
      have HD2 := Lib.hid hd; have HCN2 := Lib.hid hcn
      clear hd hcn
      go_wp2_with fail
      refine ⟨⟨q, by omega, rfl, by rw [HCN2.out], hBN.setCell (p := ⟨w.heap.size, q + 1, none⟩) (Nat.le_refl _) _, ?_⟩, by first | (simp [intOf]; done) | (simp [intOf]; omega)⟩
      rw [HD2.out]
      exact HSET.out nq
end Go.Proofs.YtgccppilhbannaaDoor
