/-
  The walk of dec.minus: a text of digits less another one of the same length.
-/
import Derived.Test.YtgccppilhbannaaDoorBts
namespace Go.Proofs.YtgccppilhbannaaDoor
open Go.RowKit Go.PlainAid

/-- The difference of two texts of digits of one length. -/
def minusS (s t : ByteArray) : ByteArray := textL (subL (low s) (low t) s.size).reverse
theorem minusS_dig {s t : ByteArray} (hs : AllDig s) : AllDig (minusS s t) := textL_dig fun d hd => subL_lt (low_lt hs) _ d (by simpa using hd)
theorem minusS_size (s t : ByteArray) : (minusS s t).size = s.size := by rw [minusS, textL_size, List.length_reverse, subL_length]
theorem dval_minusS {s t : ByteArray} (hs : AllDig s) (ht : AllDig t) (hz : s.size = t.size) (hle : dval t ≤ dval s) : dval (minusS s t) = dval s - dval t := by
  unfold minusS
  rw [dval_textL _ (fun d hd => subL_lt (low_lt hs) _ d (by simpa using hd)), List.reverse_reverse]
  exact subL_all (low_lt hs) (low_lt ht) (by rw [low_length]; omega) (by rw [low_length]; omega) hle
theorem subL_get {s t : ByteArray} (m : Nat) (hm : m < s.size) : (subL (low s) (low t) s.size)[m]'(by rw [subL_length]; omega) = subD (low s) (low t) m := by
  simp [subL]

theorem outI_setN {B n : Nat} {l : List Nat} {k : Nat} {w : World} (h : OutI B n l k w) (hk : k < n) (hl : k < l.length) : OutI B n l (k + 1) (w.setCell ⟨B, n - 1 - k, none⟩ (.int .u8 (48 + (l[k] : Int)))) := by
  obtain ⟨p, rfl⟩ : ∃ p, n = p + 1 := ⟨n - 1, by omega⟩
  exact outI_set h hk hl
set_option maxRecDepth 100000 in
set_option maxHeartbeats 2000000 in
theorem minus_any (vx vy : Value) (s t : ByteArray) (w : World) (hvx : Bts w vx s) (hvy : Bts w vy t) (hz : s.size = t.size) (h1 : 1 ≤ s.size) (hb : s.size ≤ 1000000) (hs : AllDig s) (ht : AllDig t) :
    Calls Tryd.prog 63 #[vx, vy] w fun e w' => e = .returned (.string (minusS s t)) ∧ Below w.heap.size w w' := by
  obtain ⟨gx, ox, cx, rfl, hgx, hcx, hmx, hx⟩ := hvx
  obtain ⟨gy, oy, cy, rfl, hgy, hcy, hmy, hy⟩ := hvy
  rw [← hz] at hcy hy ⊢
  have HX := Lib.hid hx; have HY := Lib.hid hy
  clear hx hy
  have HC := Lib.hid (subB_le (low s) (low t))
  have HLX := Lib.hid (getD_lt (low_lt hs)); have HLY := Lib.hid (getD_lt (low_lt ht))
  have HGX := Lib.hid (fun q m hq hm => low_get hs q m hq hm)
  have HGY := Lib.hid (fun q m (hq : q < t.size) hm => low_get ht q m hq hm)
  obtain ⟨L, hL⟩ : ∃ L, subL (low s) (low t) s.size = L := ⟨_, rfl⟩
  have hSL := subL_length (low s) (low t) s.size
  have hS10 := subL_lt (b := low t) (low_lt hs) s.size
  have hG : ∀ m (h : m < L.length), m < s.size → L[m] = subD (low s) (low t) m := fun m h hm => by subst hL; exact subL_get m hm
  have hP : minusS s t = textL (subL (low s) (low t) s.size).reverse := rfl
  rw [hL] at hSL hS10 hP
  have HSL := Lib.hid hSL; have HS10 := Lib.hid hS10; have HG := Lib.hid hG; have HP := Lib.hid hP
  clear hL hSL hS10 hG hP
  have hPZ := minusS_size s t
  have HPZ := Lib.hid hPZ
  have HZ := Lib.hid hz
  clear hs ht hPZ hz
  have hmk : ∀ W : World, (Instr.makeSlice 76 (.int .i64 (s.size : Int)) (.int .i64 (s.size : Int))).run Tryd.prog W = .ok (.slice (some ⟨W.heap.size, 0, none⟩) s.size s.size) (W.alloc (.cells (madeCells #[.int .u8 0] s.size) 5)) := fun W => run_make_row' (P := Tryd.prog) 76 5 (.int .u8 0) 1 Tryd.underlying76 infoByte rfl .i64 .i64 s.size (by omega) (by omega) W
  go_enter Tryd.func63, Tryd.ntmps63
  go_wp2_with fail
  have hO : OutI w.heap.size s.size L 0 (w.alloc (.cells (madeCells #[.int .u8 0] s.size) 5)) := fun j hj => by
    refine ⟨?_, ?_⟩
    · rw [World.cell?_alloc_mark, ← Array.getElem?_toList, toList_madeCells_one, List.getElem?_replicate, if_pos hj, if_neg (by omega)]
    · rw [World.frozen?_alloc_mark]; simp
  have hB0 : Below w.heap.size w (w.alloc (.cells (madeCells #[.int .u8 0] s.size) 5)) := (Below.refl _ _).alloc (Nat.le_refl _) _
  have hsz0 : (w.alloc (.cells (madeCells #[.int .u8 0] s.size) 5)).heap.size = w.heap.size + 1 := World.size_alloc _ _
  have HO := Lib.hid hO
  clear hO hmk
  generalize w.alloc (.cells (madeCells #[.int .u8 0] s.size) 5) = W1 at *
  have HSZ0 := Lib.hid hsz0; clear hsz0
  go_loopw [6, 7] (fun c i wr => ∃ p : Nat, p ≤ s.size ∧ i = .int .i64 ((p : Int) - 1) ∧ c = .int .u8 ((subB (low s) (low t) (s.size - p) : Nat) : Int) ∧ Below w.heap.size w wr ∧ OutI w.heap.size s.size L (s.size - p) wr) (fun _ i _ => (intOf i + 1).toNat)
  case atStart => exact ⟨s.size, Nat.le_refl _, rfl, by rw [Nat.sub_self]; rfl, hB0, by rw [Nat.sub_self]; exact HO.out⟩
  case round =>
    obtain ⟨p, hp, rfl, rfl, hB, hI⟩ := hrel
    have HI := Lib.hid hI; clear hI
    have hsz := hB.size
    cases p with
    | zero =>
      simp only [Nat.sub_zero] at HI ⊢
      obtain ⟨p, hp'⟩ : ∃ p, s.size = p + 1 := ⟨s.size - 1, by omega⟩
      have hby := HI.out
      rw [hp'] at hby
      have hby := outI_text hby (by have := HSL.out; omega) HS10.out
      rw [List.take_of_length_le (by have := HSL.out; omega), ← HP.out] at hby
      have HBY := Lib.hid hby
      clear hby hp'
      have hback := Lib.run_convert_whole (P := Tryd.prog) wr 76 5 9 Tryd.underlying76 Tryd.underlying5 Tryd.underlying9 _ _ _ HBY.out s.size
      rw [HPZ.out] at hback
      go_wp2_with fail
      go_ret
      exact ⟨rfl, hB⟩
    | succ q =>
      rw [show ((q + 1 : Nat) : Int) - 1 = (q : Int) by omega]
      have c1 := HC.out (s.size - (q + 1))
      have x1 := HLX.out (s.size - (q + 1))
      have y1 := HLY.out (s.size - (q + 1))
      have hx := (hB.cell (p := ⟨gx, ox + q, none⟩) hgx).trans (HX.out q (by omega))
      have hy := (hB.cell (p := ⟨gy, oy + q, none⟩) hgy).trans (HY.out q (by omega))
      rw [HGX.out q (s.size - (q + 1)) (by omega) (by omega)] at hx
      rw [HGY.out q (s.size - (q + 1)) (by have := HZ.out; omega) (by have := HZ.out; omega)] at hy
      have h0 := (HI.out q (by omega)).1
      have f0 := (HI.out q (by omega)).2
      rw [if_neg (by omega)] at h0
      have hset := fun n => outI_setN (outI_drewN HI.out n) (by omega) (by have := HSL.out; omega)
      simp only [HG.out (s.size - (q + 1)) (by have := HSL.out; omega) (by omega), show s.size - 1 - (s.size - (q + 1)) = q by omega, show s.size - (q + 1) + 1 = s.size - q by omega] at hset
      have HSET := Lib.hid hset
      have hd : (((low s).getD (s.size - (q + 1)) 0 + 10 - ((low t).getD (s.size - (q + 1)) 0 + subB (low s) (low t) (s.size - (q + 1))) : Nat) : Int) % 10 = ((subD (low s) (low t) (s.size - (q + 1)) : Nat) : Int) := by unfold subD; split <;> omega
      have hcn : 1 - (((low s).getD (s.size - (q + 1)) 0 + 10 - ((low t).getD (s.size - (q + 1)) 0 + subB (low s) (low t) (s.size - (q + 1))) : Nat) : Int) / 10 = ((subB (low s) (low t) (s.size - q) : Nat) : Int) := by
        rw [show s.size - q = s.size - (q + 1) + 1 by omega]
        simp only [subB]
        split <;> omega
      have HD := Lib.hid hd; have HCN := Lib.hid hcn
      clear hset hd hcn
      generalize (low s).getD (s.size - (q + 1)) 0 = x at *
      generalize (low t).getD (s.size - (q + 1)) 0 = y at *
      generalize subB (low s) (low t) (s.size - (q + 1)) = c at *
      generalize subD (low s) (low t) (s.size - (q + 1)) = d at *
      obtain ⟨z, hz⟩ : ∃ z, x + 10 - (y + c) = z := ⟨_, rfl⟩
      have hz20 : z < 20 := by omega
      have e1 : IntKind.u8.wrap (48 + (x : Int) + 10) = 48 + (x : Int) + 10 := IntWalk.u8_in _ (by omega)
      have e2 : IntKind.u8.wrap (48 + (x : Int) + 10 - (48 + (y : Int))) = 48 + (x : Int) + 10 - (48 + (y : Int)) := IntWalk.u8_in _ (by omega)
      have e3 : IntKind.u8.wrap (48 + (x : Int) + 10 - (48 + (y : Int)) - (c : Int)) = (z : Int) := by rw [show 48 + (x : Int) + 10 - (48 + (y : Int)) - (c : Int) = z by omega]; exact IntWalk.u8_in _ (by omega)
      rw [hz] at HD HCN
      have hd := HD.out
      have hcn := HCN.out
      clear hz
      go_wp2_with fail
      go_quiet (fail)
      clear e1 e2 e3
      have hBN := below_drewN hB nq
      go_wp2_with fail
      refine ⟨⟨q, by omega, rfl, rfl, hBN.setCell (p := ⟨w.heap.size, q, none⟩) (Nat.le_refl _) _, ?_⟩, by first | (simp [intOf]; done) | (simp [intOf]; omega)⟩
      exact HSET.out nq
end Go.Proofs.YtgccppilhbannaaDoor
