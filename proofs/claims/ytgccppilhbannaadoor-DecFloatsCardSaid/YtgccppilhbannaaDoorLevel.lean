/-
  The walk of dec.level: the digits of two decimals, at one scale and of one length.
-/
import Derived.Test.YtgccppilhbannaaDoorBts
import Derived.Test.YtgccppilhbannaaDoorDecRd2
namespace Go.Proofs.YtgccppilhbannaaDoor
open Go.RowKit Go.PlainAid

theorem Hold2.two {B : Nat} {w0 : World} {b0 : Nat} {c0 : Array Value} {b1 : Nat} {c1 : Array Value} {w' : World} (h : Hold2 B w0 b0 c0 b1 c1 w') : (∀ o, w'.cell? ⟨b0, o, none⟩ = c0[o]?) ∧ (∀ o, w'.cell? ⟨b1, o, none⟩ = c1[o]?) ∧ Below B w0 w' := ⟨h.1, h.2.2.1, h.2.2.2.2.1⟩

/-- Two texts of digits of one length that are two decimals at one scale. -/
def Lv (x y d1 d2 : ByteArray) (k1 k2 : Nat) : Prop :=
  AllDig x ∧ AllDig y ∧ x.size = y.size ∧ 1 ≤ x.size ∧ x.size ≤ 400000 ∧ dval x = dval d1 * 10 ^ (max k1 k2 - k1) ∧ dval y = dval d2 * 10 ^ (max k1 k2 - k2)

set_option maxRecDepth 100000 in
set_option maxHeartbeats 1000000 in
theorem level_any (n1 : Bool) (d1 : ByteArray) (k1 : Nat) (n2 : Bool) (d2 : ByteArray) (k2 : Nat) (w : World) (hd1 : AllDig d1) (hd2 : AllDig d2) (s1 : 1 ≤ d1.size) (l1 : d1.size ≤ 100000) (l2 : d2.size ≤ 100000) (b1 : k1 ≤ 100000) (b2 : k2 ≤ 100000) :
    Calls Tryd.prog 61 #[.agg #[.bool n1, .string d1, .int .i64 k1], .agg #[.bool n2, .string d2, .int .i64 k2]] w fun e w' => ∃ vx vy x y, e = .returned (.tuple #[vx, vy, .int .i64 ((max k1 k2 : Nat) : Int)]) ∧ Bts w' vx x ∧ Bts w' vy y ∧ Lv x y d1 d2 k1 k2 ∧ Below w.heap.size w w' := by
  obtain ⟨K, hK⟩ : ∃ K, max k1 k2 = K := ⟨_, rfl⟩
  obtain ⟨r1, hr1⟩ : ∃ r, K - k1 = r := ⟨_, rfl⟩
  obtain ⟨r2, hr2⟩ : ∃ r, K - k2 = r := ⟨_, rfl⟩
  have hmx : max (k1 : Int) (k2 : Int) = (K : Int) := by omega
  have e1 : IntKind.i64.wrap ((K : Int) - k1) = r1 := by rw [show (K : Int) - k1 = r1 by omega]; exact IntWalk.i64_in _ (by omega)
  have e2 : IntKind.i64.wrap ((K : Int) - k2) = r2 := by rw [show (K : Int) - k2 = r2 by omega]; exact IntWalk.i64_in _ (by omega)
  have hrp1 := fun W => repeat_any r1 W (by omega)
  have hrp2 := fun W => repeat_any r2 W (by omega)
  have z1 : (9223372036854775807 < d1.size + (zeros r1).size) = False := eq_false (by rw [zeros_size]; omega)
  have z2 : (9223372036854775807 < d2.size + (zeros r2).size) = False := eq_false (by rw [zeros_size]; omega)
  have t1 : (d1 ++ zeros r1).size = d1.size + r1 := by rw [ByteArray.size_append, zeros_size]
  have t2 : (d2 ++ zeros r2).size = d2.size + r2 := by rw [ByteArray.size_append, zeros_size]
  have u1 := behind_dig hd1 r1
  have u2 := behind_dig hd2 r2
  have v1 := dval_behind d1 r1
  have v2 := dval_behind d2 r2
  have hlv : ∀ x y : ByteArray, (AllDig x ∧ AllDig y ∧ x.size = y.size ∧ 1 ≤ x.size ∧ x.size ≤ 400000 ∧ dval x = dval d1 * 10 ^ r1 ∧ dval y = dval d2 * 10 ^ r2) → Lv x y d1 d2 k1 k2 := fun x y h => by unfold Lv; rw [hK, hr1, hr2]; exact h
  have HLV := Lib.hid hlv
  clear hd1 hd2
  rw [hK]
  have HK := Lib.hid hK; have HR1 := Lib.hid hr1; have HR2 := Lib.hid hr2
  have HV1 := Lib.hid v1; have HV2 := Lib.hid v2; have HU1 := Lib.hid u1; have HU2 := Lib.hid u2; have HT1 := Lib.hid t1; have HT2 := Lib.hid t2
  have q1 : r1 ≤ 100000 := by omega
  have q2 : r2 ≤ 100000 := by omega
  clear hlv hK hr1 hr2 v1 v2 u1 u2 t1 t2
  go_enter Tryd.func61, Tryd.ntmps61
  have ka := (Blk.new w #[Value.bool n1, .string d1, .int .i64 k1] 23).alloc (.cells #[Value.bool n2, .string d2, .int .i64 k2] 23)
  have kb := Blk.new' (w.alloc (.cells #[Value.bool n1, .string d1, .int .i64 k1] 23)) #[Value.bool n2, .string d2, .int .i64 k2] 23 (w.heap.size + 1) (by simp)
  have hBw1 := ((Below.refl w.heap.size w).alloc (Nat.le_refl _) (.cells #[Value.bool n1, .string d1, .int .i64 k1] 23)).alloc (by simp) (.cells #[Value.bool n2, .string d2, .int .i64 k2] 23)
  have hS := Hold2.mk ka kb hBw1 (Nat.le_refl _)
  clear hBw1
  go_upto_region 2 with fail
  generalize (w.alloc (.cells #[Value.bool n1, .string d1, .int .i64 k1] 23)).alloc (.cells #[Value.bool n2, .string d2, .int .i64 k2] 23) = W0 at *
  go_region_held3 (fun w' => (∀ o, w'.cell? ⟨w.heap.size, o, none⟩ = #[Value.bool n1, Value.string d1, Value.int .i64 k1][o]?) ∧ (∀ o, w'.cell? ⟨w.heap.size + 1, o, none⟩ = #[Value.bool n2, Value.string d2, Value.int .i64 k2][o]?) ∧ Below w.heap.size w w')
    (first | exact hS3.two | exact hS.drew.two)
    (first
      | (go_at_call 51; refine (hold_call (repeat_any _ _ (by omega)) (by first | exact hS3 | exact hS.drew)).mono ?_; rintro e w3 ⟨rfl, hS3⟩))
  have hBw := hS3.2.2.2.2.1
  have hz0 := hBw.size
  rename_i wO _ _
  clear hS3 hS ka kb e1 e2 hmx hrp1 hrp2 z1 z2
  have t1 := HT1.out
  have t2 := HT2.out
  generalize d1 ++ zeros r1 = T1 at *
  generalize d2 ++ zeros r2 = T2 at *
  obtain ⟨n, hn⟩ : ∃ n, max T1.size T2.size = n := ⟨_, rfl⟩
  obtain ⟨p1, hp1⟩ : ∃ p, n - T1.size = p := ⟨_, rfl⟩
  obtain ⟨p2, hp2⟩ : ∃ p, n - T2.size = p := ⟨_, rfl⟩
  have hmx : max (T1.size : Int) (T2.size : Int) = (n : Int) := by omega
  have e1 : IntKind.i64.wrap ((n : Int) - T1.size) = p1 := by rw [show (n : Int) - T1.size = p1 by omega]; exact IntWalk.i64_in _ (by omega)
  have e2 : IntKind.i64.wrap ((n : Int) - T2.size) = p2 := by rw [show (n : Int) - T2.size = p2 by omega]; exact IntWalk.i64_in _ (by omega)
  have z1 : (9223372036854775807 < (zeros p1).size + T1.size) = False := eq_false (by rw [zeros_size]; omega)
  have z2 : (9223372036854775807 < (zeros p2).size + T2.size) = False := eq_false (by rw [zeros_size]; omega)
  have g1 : (zeros p1 ++ T1).size = n := by rw [ByteArray.size_append, zeros_size]; omega
  have g2 : (zeros p2 ++ T2).size = n := by rw [ByteArray.size_append, zeros_size]; omega
  have hlv := HLV.out (zeros p1 ++ T1) (zeros p2 ++ T2) ⟨pad_dig HU1.out _, pad_dig HU2.out _, by rw [g1, g2], by omega, by omega, by rw [dval_pad, HV1.out], by rw [dval_pad, HV2.out]⟩
  have HLV := Lib.hid hlv
  have n4 : n ≤ 400000 := by omega
  have hrp1 := fun W => repeat_any p1 W (by omega)
  have hrp2 := fun W => repeat_any p2 W (by omega)
  have G1 := Lib.hid g1; have G2 := Lib.hid g2
  have GS1 := Lib.hid (show (zeros p1).size + T1.size = n by rw [← ByteArray.size_append]; exact g1)
  have GS2 := Lib.hid (show (zeros p2).size + T2.size = n by rw [← ByteArray.size_append]; exact g2)
  clear hlv g1 g2 hn hp1 hp2 t1 t2
  have kc := conv_bytes
  go_wp2_with fail
  refine (hrp1 _).mono ?_
  rintro e w4 ⟨rfl, hB4⟩
  clear hmx hrp1
  go_wp2_with fail
  generalize zeros p1 ++ T1 = X at *
  have hX := bts_new w4 X (by rw [G1.out]; omega)
  have hBX := below_bytes w4 X
  generalize Lib.bytesWorld w4 5 X = w5 at *
  refine (hrp2 _).mono ?_
  rintro e w6 ⟨rfl, hB6⟩
  clear hrp2
  go_wp2_with fail
  generalize zeros p2 ++ T2 = Y at *
  have hY := bts_new w6 Y (by rw [G2.out]; omega)
  have hBY := below_bytes w6 Y
  generalize Lib.bytesWorld w6 5 Y = w7 at *
  rw [G1.out] at hX
  rw [G2.out] at hY
  go_ret3
  rw [GS1.out, GS2.out]
  have hB47 := (hBX.trans (hB6.mono hBX.size)).trans (hBY.mono (hBX.trans (hB6.mono hBX.size)).size)
  have hX7 := (hX.later hB6 (Nat.le_refl _)).later hBY (Nat.le_refl _)
  refine ⟨.slice (some ⟨w4.heap.size, 0, none⟩) n (grownCap w4 n 0 5), .slice (some ⟨w6.heap.size, 0, none⟩) n (grownCap w6 n 0 5), X, Y, rfl, hX7, hY, HLV.out, ?_⟩
  exact (hBw.trans (hB4.mono hBw.size)).trans (hB47.mono (hBw.trans (hB4.mono hBw.size)).size)
end Go.Proofs.YtgccppilhbannaaDoor
