/-
  Laws and contracts taken over from earlier texts (cut out by a program of this seat's own, slice.py), as far as this seat needs them.
-/
import Derived.Test.YtgbemhehbhlgpaaGreatDoorPlDf
namespace Go.Proofs.YtgbemhehbhlgpaaGreatDoor
section
open Go.RowKit Go.PlainAid
/-- The digits of a row up to a place. -/
def lowTo (l : List Nat) (c : Nat) : List Nat := (List.range c).map fun i => l.getD i 0

theorem lowTo_length (l : List Nat) (c : Nat) : (lowTo l c).length = c := by simp [lowTo]

theorem lowTo_succ (l : List Nat) (c : Nat) : lowTo l (c + 1) = lowTo l c ++ [l.getD c 0] := by simp [lowTo, List.range_succ]

theorem rowval_lowTo (l : List Nat) : ∀ c, rowval (lowTo l c) = rowval (l.take c)
  | 0 => by simp [lowTo, rowval]
  | c + 1 => by
    rw [lowTo_succ, rowval_append, lowTo_length, rowval_take_succ, rowval_lowTo l c]
    simp [rowval]

theorem lowTo_lt {l : List Nat} (h : ∀ d ∈ l, d < 10) (c : Nat) : ∀ d ∈ lowTo l c, d < 10 := fun d hd => by
  obtain ⟨i, _, rfl⟩ := List.mem_map.1 hd
  exact getD_lt h i

end
section
open Go.RowKit Go.PlainAid
theorem rRight_is {neg : Bool} {ds : ByteArray} {sc : Int} {b : Bool} (hr : rightB neg ds sc = b) (w : World) :
    Calls Tryz.prog 26 #[.agg #[.bool neg, .string ds, .int .i64 sc]] w fun e w' => e = .returned (.bool b) ∧ Below w.heap.size w w' := by
  have h := rRight_any neg ds sc w
  rw [hr] at h
  exact h

end
section
open Go.RowKit Go.PlainAid
def cmpI (a b : Int) : Int := if a < b then -1 else if b < a then 1 else 0

/-- Texts of one length are compared at the first place where they differ. -/
theorem cmp_first {s t : ByteArray} (hs : AllDig s) (ht : AllDig t) (hz : s.size = t.size) (p : Nat) (hp : p < s.size) (heq : ∀ j, j < p → bt s j = bt t j) (hne : bt s p ≠ bt t p) : cmpN (dval s) (dval t) = cmpI (bt s p) (bt t p) := by
  have e1 := low_get hs p (s.size - 1 - p) hp (by omega)
  have e2 := low_get ht p (s.size - 1 - p) (by omega) (by omega)
  have hE : EqFrom (low s) (low t) (s.size - 1 - p + 1) := fun j hj => by
    by_cases h : j < s.size
    · have g1 := low_get hs (s.size - 1 - j) j (by omega) (by omega)
      have g2 := low_get ht (s.size - 1 - j) j (by omega) (by omega)
      have g3 := heq (s.size - 1 - j) (by omega)
      omega
    · rw [List.getD_eq_getElem?_getD, List.getD_eq_getElem?_getD, List.getElem?_eq_none (by rw [low_length]; omega), List.getElem?_eq_none (by rw [low_length]; omega)]
  have hE' : EqFrom (low t) (low s) (s.size - 1 - p + 1) := fun j hj => (hE j hj).symm
  have hv1 : dval s = rowval (low s) := rfl
  have hv2 : dval t = rowval (low t) := rfl
  have l1 := less_at (low_lt hs) (low_lt ht) hE (by omega)
  have l2 := less_at (low_lt ht) (low_lt hs) hE' (by omega)
  unfold cmpN cmpI
  rw [hv1, hv2]
  by_cases h : bt s p < bt t p
  · rw [if_pos h, if_pos (l1.2 (by omega))]
  · rw [if_neg h, if_neg (fun g => h (by have := l1.1 g; omega)), if_pos (l2.2 (by omega)), if_pos (by omega)]

theorem cmp_all {s t : ByteArray} (hz : s.size = t.size) (heq : ∀ j, j < s.size → bt s j = bt t j) : cmpN (dval s) (dval t) = 0 := by
  rw [bytes_eq hz heq]
  unfold cmpN
  rw [if_neg (by omega), if_neg (by omega)]

set_option maxRecDepth 100000 in
theorem isNaN_byte (a : Int) (w : World) : Calls Tryz.prog 160 #[.int .u8 a] w fun e w' => e = .returned (.bool false) ∧ w = w' := by
  go_enter Tryz.func160, Tryz.ntmps160
  go_wp2_with fail
  go_ret
  exact ⟨by simp, rfl⟩

set_option maxRecDepth 100000 in
theorem cmpb_any (a b : Int) (w : World) : Calls Tryz.prog 146 #[.int .u8 a, .int .u8 b] w fun e w' => e = .returned (.int .i64 (cmpI a b)) ∧ w = w' := by
  have h3 : (a < b ∧ cmpI a b = -1) ∨ (¬ a < b ∧ b < a ∧ cmpI a b = 1) ∨ (¬ a < b ∧ ¬ b < a ∧ cmpI a b = 0) := by
    unfold cmpI
    by_cases h : a < b
    · exact .inl ⟨h, if_pos h⟩
    · by_cases g : b < a
      · exact .inr (.inl ⟨h, g, by rw [if_neg h, if_pos g]⟩)
      · exact .inr (.inr ⟨h, g, by rw [if_neg h, if_neg g]⟩)
  obtain ⟨c, hc⟩ : ∃ c, cmpI a b = c := ⟨_, rfl⟩
  rw [hc] at h3 ⊢
  clear hc
  go_enter Tryz.func146, Tryz.ntmps146
  go_wp2_with fail
  refine (isNaN_byte _ _).mono ?_
  rintro e w' ⟨rfl, rfl⟩
  go_wp2_with fail
  refine (isNaN_byte _ _).mono ?_
  rintro e w' ⟨rfl, rfl⟩
  rcases h3 with ⟨h, rfl⟩ | ⟨h, g, rfl⟩ | ⟨h, g, rfl⟩
  all_goals
    go_wp2_with fail
    go_ret
    exact ⟨rfl, rfl⟩

set_option maxRecDepth 100000 in
set_option maxHeartbeats 2000000 in
theorem slcmp_any (vx vy : Value) (s t : ByteArray) (w : World) (hvx : Bts w vx s) (hvy : Bts w vy t) (hz : s.size = t.size) (hb : s.size ≤ 1000000) (hs : AllDig s) (ht : AllDig t) :
    Calls Tryz.prog 127 #[vx, vy] w fun e w' => e = .returned (.int .i64 (cmpN (dval s) (dval t))) ∧ w = w' := by
  obtain ⟨gx, ox, cx, rfl, hgx, hcx, hmx, hx⟩ := hvx
  obtain ⟨gy, oy, cy, rfl, hgy, hcy, hmy, hy⟩ := hvy
  rw [← hz] at hcy hy ⊢
  have HX := Lib.hid hx; have HY := Lib.hid hy
  have HF := Lib.hid (fun p hp heq hne => cmp_first hs ht hz p hp heq hne)
  have HA := Lib.hid (fun heq => cmp_all hz heq)
  clear hx hy hs ht hz
  obtain ⟨c, hc⟩ : ∃ c, cmpN (dval s) (dval t) = c := ⟨_, rfl⟩
  rw [hc] at HF HA ⊢
  clear hc
  go_enter Tryz.func127, Tryz.ntmps127
  go_wp2_with fail
  go_loopw [11] (fun i wr => ∃ p : Nat, p ≤ s.size ∧ i = .int .i64 (p : Int) ∧ w = wr ∧ ∀ j, j < p → bt s j = bt t j) (fun i _ => (s.size - intOf i).toNat)
  case atStart => exact ⟨0, Nat.zero_le _, rfl, rfl, fun j hj => absurd hj (by omega)⟩
  case round =>
    obtain ⟨p, hp, rfl, rfl, hpre⟩ := hrel
    have HPRE := Lib.hid hpre; clear hpre
    by_cases hlt : p < s.size
    · have hx := HX.out p hlt
      have hy := HY.out p hlt
      have e1 : IntKind.i64.wrap ((p : Int) + 1) = (p : Int) + 1 := IntWalk.i64_in _ (by omega)
      by_cases hne : bt s p = bt t p
      · have hc : cmpI (bt s p) (bt t p) = 0 := by rw [hne]; unfold cmpI; rw [if_neg (by omega), if_neg (by omega)]
        have hp2 : ∀ j, j < p + 1 → bt s j = bt t j := fun j hj => by
          by_cases h : j = p
          · rw [h]; exact hne
          · exact HPRE.out j (by omega)
        have HP2 := Lib.hid hp2
        clear hne hp2
        generalize bt s p = a at *
        generalize bt t p = b at *
        go_wp2_with fail
        refine (cmpb_any _ _ _).mono ?_
        rintro e w' ⟨rfl, rfl⟩
        rw [hc]
        go_wp2_with fail
        refine ⟨⟨p + 1, by omega, rfl, by first | trivial | rfl, HP2.out⟩, by first | (simp [intOf]; done) | (simp [intOf]; omega)⟩
      · have hc := HF.out p hlt HPRE.out hne
        have h0 : c ≠ 0 := by
          rw [hc]
          unfold cmpI
          by_cases h : bt s p < bt t p
          · rw [if_pos h]; omega
          · rw [if_neg h, if_pos (by omega)]; omega
        have HC := Lib.hid hc
        clear hne hc
        generalize bt s p = a at *
        generalize bt t p = b at *
        go_wp2_with fail
        refine (cmpb_any _ _ _).mono ?_
        rintro e w' ⟨rfl, rfl⟩
        rw [← HC.out]
        go_wp2_with fail
        go_ret
        exact ⟨rfl, rfl⟩
    · have hc := HA.out (fun j hj => HPRE.out j (by omega))
      subst hc
      go_wp2_with fail
      go_ret
      exact ⟨rfl, rfl⟩

end
section
open Go.RowKit Go.PlainAid
/-- A number with a sign. -/
def sv (neg : Bool) (n : Nat) : Int := if neg = true then -(n : Int) else n

theorem sv_true (n : Nat) : sv true n = -(n : Int) := rfl

theorem sv_false (n : Nat) : sv false n = n := rfl

def cmpZ (a b : Int) : Int := if a < b then -1 else if b < a then 1 else 0

/-- The sign of a number. -/
def sgnN (neg : Bool) (n : Nat) : Int := if n = 0 then 0 else if neg = true then -1 else 1

theorem sgnN_mul (neg : Bool) (n k : Nat) : sgnN neg (n * 10 ^ k) = sgnN neg n := by
  have hp : 0 < 10 ^ k := Nat.pow_pos (by decide)
  have e : (n * 10 ^ k = 0) ↔ n = 0 := by
    constructor
    · intro h
      rcases Nat.mul_eq_zero.1 h with h | h
      · exact h
      · omega
    · rintro rfl
      exact Nat.zero_mul _
  unfold sgnN
  by_cases h : n = 0
  · rw [if_pos (e.2 h), if_pos h]
  · rw [if_neg (fun g => h (e.1 g)), if_neg h]

theorem cmp_signs {n1 n2 : Bool} {x y : Nat} (h : sgnN n1 x ≠ sgnN n2 y) : cmpZ (sv n1 x) (sv n2 y) = min 1 (max (-1) (sgnN n1 x - sgnN n2 y)) := by
  revert h
  unfold cmpZ sgnN
  cases n1 <;> cases n2 <;> simp only [sv_false, sv_true] <;> by_cases hx : x = 0 <;> by_cases hy : y = 0 <;> simp [hx, hy] <;> omega

theorem cmp_neg {n2 : Bool} {x y : Nat} (h1 : x ≠ 0) (h : sgnN true x = sgnN n2 y) : cmpZ (sv true x) (sv n2 y) = -cmpN x y := by
  revert h
  unfold cmpZ cmpN sgnN
  cases n2 <;> simp only [sv_false, sv_true] <;> by_cases hy : y = 0 <;> simp [h1, hy] <;> by_cases g1 : x < y <;> by_cases g2 : y < x <;> simp [g1, g2] <;> omega

theorem cmp_pos {n2 : Bool} {x y : Nat} (h : sgnN false x = sgnN n2 y) : cmpZ (sv false x) (sv n2 y) = cmpN x y := by
  revert h
  unfold cmpZ cmpN sgnN
  cases n2 <;> simp only [sv_false, sv_true] <;> by_cases hx : x = 0 <;> by_cases hy : y = 0 <;> simp [hx, hy] <;> by_cases g1 : x < y <;> by_cases g2 : y < x <;> simp [g1, g2] <;> omega

end
section
open Go.RowKit Go.PlainAid
theorem Hold2.two {B : Nat} {w0 : World} {b0 : Nat} {c0 : Array Value} {b1 : Nat} {c1 : Array Value} {w' : World} (h : Hold2 B w0 b0 c0 b1 c1 w') : (∀ o, w'.cell? ⟨b0, o, none⟩ = c0[o]?) ∧ (∀ o, w'.cell? ⟨b1, o, none⟩ = c1[o]?) ∧ Below B w0 w' := ⟨h.1, h.2.2.1, h.2.2.2.2.1⟩

/-- Two texts of digits of one length that are two decimals at one scale. -/
def Lv (x y d1 d2 : ByteArray) (k1 k2 : Nat) : Prop :=
  AllDig x ∧ AllDig y ∧ x.size = y.size ∧ 1 ≤ x.size ∧ x.size ≤ 400000 ∧ dval x = dval d1 * 10 ^ (max k1 k2 - k1) ∧ dval y = dval d2 * 10 ^ (max k1 k2 - k2)

set_option maxRecDepth 100000 in
set_option maxHeartbeats 1000000 in
theorem level_any (n1 : Bool) (d1 : ByteArray) (k1 : Nat) (n2 : Bool) (d2 : ByteArray) (k2 : Nat) (w : World) (hd1 : AllDig d1) (hd2 : AllDig d2) (s1 : 1 ≤ d1.size) (l1 : d1.size ≤ 100000) (l2 : d2.size ≤ 100000) (b1 : k1 ≤ 100000) (b2 : k2 ≤ 100000) :
    Calls Tryz.prog 126 #[.agg #[.bool n1, .string d1, .int .i64 k1], .agg #[.bool n2, .string d2, .int .i64 k2]] w fun e w' => ∃ vx vy x y, e = .returned (.tuple #[vx, vy, .int .i64 ((max k1 k2 : Nat) : Int)]) ∧ Bts w' vx x ∧ Bts w' vy y ∧ Lv x y d1 d2 k1 k2 ∧ Below w.heap.size w w' := by
  obtain ⟨K, hK⟩ : ∃ K, max k1 k2 = K := ⟨_, rfl⟩
  obtain ⟨r1, hr1⟩ : ∃ r, K - k1 = r := ⟨_, rfl⟩
  obtain ⟨r2, hr2⟩ : ∃ r, K - k2 = r := ⟨_, rfl⟩
  have hmx : max (k1 : Int) (k2 : Int) = (K : Int) := by omega
  have e1 : IntKind.i64.wrap ((K : Int) - k1) = r1 := by rw [show (K : Int) - k1 = r1 by omega]; exact IntWalk.i64_in _ (by omega)
  have e2 : IntKind.i64.wrap ((K : Int) - k2) = r2 := by rw [show (K : Int) - k2 = r2 by omega]; exact IntWalk.i64_in _ (by omega)
  have hrp1 := fun W => repeat_any r1 W (by omega)
  have hrp2 := fun W => repeat_any r2 W (by omega)
  have z1 : (9223372036854775807 < d1.size + (zeros r1).size) = False := eq_false (by rw [zeros_size]; omega)
  have z2 : (9223372036854775807 < d2.size + (zeros r2).size) = False := eq_false (by rw [zeros_size]; omega)
  have t1 : (d1 ++ zeros r1).size = d1.size + r1 := by rw [ByteArray.size_append, zeros_size]
  have t2 : (d2 ++ zeros r2).size = d2.size + r2 := by rw [ByteArray.size_append, zeros_size]
  have u1 := behind_dig hd1 r1
  have u2 := behind_dig hd2 r2
  have v1 := dval_behind d1 r1
  have v2 := dval_behind d2 r2
  have hlv : ∀ x y : ByteArray, (AllDig x ∧ AllDig y ∧ x.size = y.size ∧ 1 ≤ x.size ∧ x.size ≤ 400000 ∧ dval x = dval d1 * 10 ^ r1 ∧ dval y = dval d2 * 10 ^ r2) → Lv x y d1 d2 k1 k2 := fun x y h => by unfold Lv; rw [hK, hr1, hr2]; exact h
  have HLV := Lib.hid hlv
  clear hd1 hd2
  rw [hK]
  have HK := Lib.hid hK; have HR1 := Lib.hid hr1; have HR2 := Lib.hid hr2
  have HV1 := Lib.hid v1; have HV2 := Lib.hid v2; have HU1 := Lib.hid u1; have HU2 := Lib.hid u2; have HT1 := Lib.hid t1; have HT2 := Lib.hid t2
  have q1 : r1 ≤ 100000 := by omega
  have q2 : r2 ≤ 100000 := by omega
  clear hlv hK hr1 hr2 v1 v2 u1 u2 t1 t2
  go_enter Tryz.func126, Tryz.ntmps126
  have ka := (Blk.new w #[Value.bool n1, .string d1, .int .i64 k1] 23).alloc (.cells #[Value.bool n2, .string d2, .int .i64 k2] 23)
  have kb := Blk.new' (w.alloc (.cells #[Value.bool n1, .string d1, .int .i64 k1] 23)) #[Value.bool n2, .string d2, .int .i64 k2] 23 (w.heap.size + 1) (by simp)
  have hBw1 := ((Below.refl w.heap.size w).alloc (Nat.le_refl _) (.cells #[Value.bool n1, .string d1, .int .i64 k1] 23)).alloc (by simp) (.cells #[Value.bool n2, .string d2, .int .i64 k2] 23)
  have hS := Hold2.mk ka kb hBw1 (Nat.le_refl _)
  clear hBw1
  go_upto_region 2 with fail
  generalize (w.alloc (.cells #[Value.bool n1, .string d1, .int .i64 k1] 23)).alloc (.cells #[Value.bool n2, .string d2, .int .i64 k2] 23) = W0 at *
  go_region_held3 (fun w' => (∀ o, w'.cell? ⟨w.heap.size, o, none⟩ = #[Value.bool n1, Value.string d1, Value.int .i64 k1][o]?) ∧ (∀ o, w'.cell? ⟨w.heap.size + 1, o, none⟩ = #[Value.bool n2, Value.string d2, Value.int .i64 k2][o]?) ∧ Below w.heap.size w w')
    (first | exact hS3.two | exact hS.drew.two)
    (first
      | (go_at_call 80; refine (hold_call (repeat_any _ _ (by omega)) (by first | exact hS3 | exact hS.drew)).mono ?_; rintro e w3 ⟨rfl, hS3⟩))
  have hBw := hS3.2.2.2.2.1
  have hz0 := hBw.size
  rename_i wO _ _
  clear hS3 hS ka kb e1 e2 hmx hrp1 hrp2 z1 z2
  have t1 := HT1.out
  have t2 := HT2.out
  generalize d1 ++ zeros r1 = T1 at *
  generalize d2 ++ zeros r2 = T2 at *
  obtain ⟨n, hn⟩ : ∃ n, max T1.size T2.size = n := ⟨_, rfl⟩
  obtain ⟨p1, hp1⟩ : ∃ p, n - T1.size = p := ⟨_, rfl⟩
  obtain ⟨p2, hp2⟩ : ∃ p, n - T2.size = p := ⟨_, rfl⟩
  have hmx : max (T1.size : Int) (T2.size : Int) = (n : Int) := by omega
  have e1 : IntKind.i64.wrap ((n : Int) - T1.size) = p1 := by rw [show (n : Int) - T1.size = p1 by omega]; exact IntWalk.i64_in _ (by omega)
  have e2 : IntKind.i64.wrap ((n : Int) - T2.size) = p2 := by rw [show (n : Int) - T2.size = p2 by omega]; exact IntWalk.i64_in _ (by omega)
  have z1 : (9223372036854775807 < (zeros p1).size + T1.size) = False := eq_false (by rw [zeros_size]; omega)
  have z2 : (9223372036854775807 < (zeros p2).size + T2.size) = False := eq_false (by rw [zeros_size]; omega)
  have g1 : (zeros p1 ++ T1).size = n := by rw [ByteArray.size_append, zeros_size]; omega
  have g2 : (zeros p2 ++ T2).size = n := by rw [ByteArray.size_append, zeros_size]; omega
  have hlv := HLV.out (zeros p1 ++ T1) (zeros p2 ++ T2) ⟨pad_dig HU1.out _, pad_dig HU2.out _, by rw [g1, g2], by omega, by omega, by rw [dval_pad, HV1.out], by rw [dval_pad, HV2.out]⟩
  have HLV := Lib.hid hlv
  have n4 : n ≤ 400000 := by omega
  have hrp1 := fun W => repeat_any p1 W (by omega)
  have hrp2 := fun W => repeat_any p2 W (by omega)
  have G1 := Lib.hid g1; have G2 := Lib.hid g2
  have GS1 := Lib.hid (show (zeros p1).size + T1.size = n by rw [← ByteArray.size_append]; exact g1)
  have GS2 := Lib.hid (show (zeros p2).size + T2.size = n by rw [← ByteArray.size_append]; exact g2)
  clear hlv g1 g2 hn hp1 hp2 t1 t2
  have kc := conv_bytes
  go_wp2_with fail
  refine (hrp1 _).mono ?_
  rintro e w4 ⟨rfl, hB4⟩
  clear hmx hrp1
  go_wp2_with fail
  generalize zeros p1 ++ T1 = X at *
  have hX := bts_new w4 X (by rw [G1.out]; omega)
  have hBX := below_bytes w4 X
  generalize Lib.bytesWorld w4 5 X = w5 at *
  refine (hrp2 _).mono ?_
  rintro e w6 ⟨rfl, hB6⟩
  clear hrp2
  go_wp2_with fail
  generalize zeros p2 ++ T2 = Y at *
  have hY := bts_new w6 Y (by rw [G2.out]; omega)
  have hBY := below_bytes w6 Y
  generalize Lib.bytesWorld w6 5 Y = w7 at *
  rw [G1.out] at hX
  rw [G2.out] at hY
  go_ret3
  rw [GS1.out, GS2.out]
  have hB47 := (hBX.trans (hB6.mono hBX.size)).trans (hBY.mono (hBX.trans (hB6.mono hBX.size)).size)
  have hX7 := (hX.later hB6 (Nat.le_refl _)).later hBY (Nat.le_refl _)
  refine ⟨.slice (some ⟨w4.heap.size, 0, none⟩) n (grownCap w4 n 0 5), .slice (some ⟨w6.heap.size, 0, none⟩) n (grownCap w6 n 0 5), X, Y, rfl, hX7, hY, HLV.out, ?_⟩
  exact (hBw.trans (hB4.mono hBw.size)).trans (hB47.mono (hBw.trans (hB4.mono hBw.size)).size)

end
section
open Go.RowKit Go.PlainAid
set_option maxRecDepth 100000 in
set_option maxHeartbeats 1000000 in
theorem both_yes {n1 : Bool} {d1 : ByteArray} {k1 : Int} {n2 : Bool} {d2 : ByteArray} {k2 : Int} (h1 : rightB n1 d1 k1 = true) (h2 : rightB n2 d2 k2 = true) (w : World) :
    Calls Tryz.prog 125 #[.agg #[.bool n1, .string d1, .int .i64 k1], .agg #[.bool n2, .string d2, .int .i64 k2]] w fun e w' => e = .returned (.int .i64 0) ∧ Below w.heap.size w w' := by
  have hc1 := fun W => check_yes h1 W
  have hc2 := fun W => check_yes h2 W
  clear h1 h2
  go_enter Tryz.func125, Tryz.ntmps125
  go_wp2_with fail
  refine (hc1 _).mono ?_
  rintro e w1 ⟨rfl, hB1⟩
  have kb := (Blk.new' (w.alloc _) _ _ (w.heap.size + 1) (by simp)).on hB1
  have hBw1 := (((Below.refl w.heap.size w).alloc (Nat.le_refl _) _).alloc (by simp) _).trans (hB1.mono (by simp; omega))
  have cb := kb.cell
  clear hc1 hB1
  go_wp2_with fail
  refine (hc2 _).mono ?_
  rintro e w2 ⟨rfl, hB2⟩
  have hBw := hBw1.trans (hB2.mono hBw1.size)
  clear cb hc2
  go_wp2_with fail
  go_ret
  exact ⟨rfl, hBw⟩

set_option maxRecDepth 100000 in
set_option maxHeartbeats 1000000 in
theorem both_no {n1 : Bool} {d1 : ByteArray} {k1 : Int} {n2 : Bool} {d2 : ByteArray} {k2 : Int} (h : rightB n1 d1 k1 = false ∨ rightB n2 d2 k2 = false) (w : World) :
    Calls Tryz.prog 125 #[.agg #[.bool n1, .string d1, .int .i64 k1], .agg #[.bool n2, .string d2, .int .i64 k2]] w fun e w' => e = .returned (.int .i64 2) ∧ Below w.heap.size w w' := by
  cases h1 : rightB n1 d1 k1 with
  | false =>
    have hc1 := fun W => check_no h1 W
    clear h1 h
    go_enter Tryz.func125, Tryz.ntmps125
    go_wp2_with fail
    refine (hc1 _).mono ?_
    rintro e w1 ⟨rfl, hB1⟩
    have hBw1 := (((Below.refl w.heap.size w).alloc (Nat.le_refl _) (.cells #[.bool n1, .string d1, .int .i64 k1] 23)).alloc (by simp) (.cells #[.bool n2, .string d2, .int .i64 k2] 23)).trans (hB1.mono (by simp; omega))
    clear hc1 hB1
    go_wp2_with fail
    go_ret
    exact ⟨rfl, hBw1⟩
  | true =>
    have h2 : rightB n2 d2 k2 = false := by rcases h with h | h; { rw [h1] at h; cases h }; exact h
    have hc1 := fun W => check_yes h1 W
    have hc2 := fun W => check_no h2 W
    clear h1 h2 h
    go_enter Tryz.func125, Tryz.ntmps125
    go_wp2_with fail
    refine (hc1 _).mono ?_
    rintro e w1 ⟨rfl, hB1⟩
    have kb := (Blk.new' (w.alloc _) _ _ (w.heap.size + 1) (by simp)).on hB1
    have hBw1 := (((Below.refl w.heap.size w).alloc (Nat.le_refl _) _).alloc (by simp) _).trans (hB1.mono (by simp; omega))
    have cb := kb.cell
    clear hc1 hB1
    go_wp2_with fail
    refine (hc2 _).mono ?_
    rintro e w2 ⟨rfl, hB2⟩
    have hBw := hBw1.trans (hB2.mono hBw1.size)
    clear cb hc2
    go_wp2_with fail
    go_ret
    exact ⟨rfl, hBw⟩

/-- The text of a right decimal's digits is "0" just if it is nought. -/
theorem right_zero {neg : Bool} {ds : ByteArray} {k : Int} (h : rightB neg ds k = true) : (ds.toList == [48]) = decide (dval ds = 0) := by
  by_cases h0 : dval ds = 0
  · have e := right_digs h
    rw [h0] at e
    rw [decide_eq_true h0, ← e]
    decide +kernel
  · have e := digs_ne h0
    rw [right_digs h] at e
    rw [e, decide_eq_false h0]

set_option maxRecDepth 100000 in
set_option maxHeartbeats 1000000 in
theorem sign_yes {neg : Bool} {ds : ByteArray} {k : Int} (h : rightB neg ds k = true) (w : World) :
    Calls Tryz.prog 128 #[.agg #[.bool neg, .string ds, .int .i64 k]] w fun e w' => e = .returned (.int .i64 (sgnN neg (dval ds))) ∧ Below w.heap.size w w' := by
  have hc1 := fun W => check_yes h W
  have hz := right_zero h
  clear h
  have hcase : ((ds.toList == [48]) = true ∧ sgnN neg (dval ds) = 0) ∨ ((ds.toList == [48]) = false ∧ neg = true ∧ sgnN neg (dval ds) = -1) ∨ ((ds.toList == [48]) = false ∧ neg = false ∧ sgnN neg (dval ds) = 1) := by
    unfold sgnN
    by_cases h0 : dval ds = 0
    · exact .inl ⟨by rw [hz]; exact decide_eq_true h0, if_pos h0⟩
    · rw [decide_eq_false h0] at hz
      cases neg with
      | true => exact .inr (.inl ⟨hz, rfl, by rw [if_neg h0]; rfl⟩)
      | false => exact .inr (.inr ⟨hz, rfl, by rw [if_neg h0]; rfl⟩)
  clear hz
  obtain ⟨s, hs⟩ : ∃ s, sgnN neg (dval ds) = s := ⟨_, rfl⟩
  rw [hs] at hcase ⊢
  clear hs
  rcases hcase with ⟨hz, rfl⟩ | ⟨hz, rfl, rfl⟩ | ⟨hz, rfl, rfl⟩
  all_goals
    go_enter Tryz.func128, Tryz.ntmps128
    go_wp2_with fail
    refine (hc1 _).mono ?_
    rintro e w1 ⟨rfl, hB1⟩
    have ka := (Blk.new w _ _).on hB1
    have hBw := ((Below.refl w.heap.size w).alloc (Nat.le_refl _) _).trans (hB1.mono (by simp))
    have ca := ka.cell
    clear hc1 hB1
    go_wp2_with fail
    go_ret
    exact ⟨rfl, hBw⟩

set_option maxRecDepth 100000 in
theorem sgn_any (a : Int) (w : World) : Calls Tryz.prog 129 #[.int .i64 a] w fun e w' => e = .returned (.int .i64 (min 1 (max (-1) a))) ∧ w = w' := by
  go_enter Tryz.func129, Tryz.ntmps129
  go_wp2_with fail
  go_ret
  exact ⟨rfl, rfl⟩

/-- The sign that a turned decimal has. -/
def turnB (neg : Bool) (ds : ByteArray) : Bool := !neg && !(ds.toList == [48])

set_option maxRecDepth 100000 in
set_option maxHeartbeats 1000000 in
theorem neg_yes {neg : Bool} {ds : ByteArray} {k : Int} (h : rightB neg ds k = true) (w : World) :
    Calls Tryz.prog 29 #[.agg #[.bool neg, .string ds, .int .i64 k]] w fun e w' => e = .returned (decE (turnB neg ds, ds, k, 0)) ∧ Below w.heap.size w w' := by
  have hc1 := fun W => check_yes h W
  clear h
  have hcase : (neg = true ∧ turnB neg ds = false) ∨ (neg = false ∧ (ds.toList == [48]) = true ∧ turnB neg ds = false) ∨ (neg = false ∧ (ds.toList == [48]) = false ∧ turnB neg ds = true) := by
    unfold turnB
    cases neg with
    | true => exact .inl ⟨rfl, rfl⟩
    | false =>
      cases hz : (ds.toList == [48]) with
      | true => exact .inr (.inl ⟨rfl, rfl, rfl⟩)
      | false => exact .inr (.inr ⟨rfl, rfl, rfl⟩)
  obtain ⟨t, ht⟩ : ∃ t, turnB neg ds = t := ⟨_, rfl⟩
  rw [ht] at hcase ⊢
  clear ht
  rcases hcase with ⟨rfl, rfl⟩ | ⟨rfl, hz, rfl⟩ | ⟨rfl, hz, rfl⟩
  all_goals
    go_enter Tryz.func29, Tryz.ntmps29
    go_wp2_with fail
    refine (hc1 _).mono ?_
    rintro e w1 ⟨rfl, hB1⟩
    have ka := ((Blk.new w _ _).alloc _).on hB1
    have kb := (Blk.new' (w.alloc _) _ _ (w.heap.size + 1) (by simp)).on hB1
    have hBw := (((Below.refl w.heap.size w).alloc (Nat.le_refl _) _).alloc (by simp) _).trans (hB1.mono (by simp; omega))
    have ca := ka.cell
    have fa := ka.free
    have cb := kb.cell
    have fb := kb.free
    clear hc1 hB1
    go_wp2_with fail
    refine bodyPost_ret ?_ rfl ⟨rfl, ?_⟩
    · simp [results, Tryz.results29, go_sem, cb]
    · repeat (refine Below.setCell ?_ (by first | exact Nat.le_refl _ | exact Nat.le_succ _) _)
      exact hBw

theorem neg_nz {n : Bool} {d : ByteArray} {k : Int} (h : rightB n d k = true) (hn : n = true) : dval d ≠ 0 := fun h0 => by
  obtain ⟨h1, _, _, _, h5, _⟩ := of_decide_eq_true h
  have e := right_digs h
  rw [h0] at e
  apply h5
  rw [← e]
  exact ⟨by decide +kernel, .inr hn⟩

/-- The number that Compare tells. -/
def cmpD (n1 : Bool) (d1 : ByteArray) (k1 : Nat) (n2 : Bool) (d2 : ByteArray) (k2 : Nat) : Int := cmpZ (sv n1 (dval d1 * 10 ^ (max k1 k2 - k1))) (sv n2 (dval d2 * 10 ^ (max k1 k2 - k2)))

set_option maxRecDepth 100000 in
set_option maxHeartbeats 2000000 in
theorem compare_yes {n1 : Bool} {d1 : ByteArray} {k1 : Nat} {n2 : Bool} {d2 : ByteArray} {k2 : Nat} (h1 : rightB n1 d1 k1 = true) (h2 : rightB n2 d2 k2 = true) (w : World) :
    Calls Tryz.prog 101 #[.agg #[.bool n1, .string d1, .int .i64 k1], .agg #[.bool n2, .string d2, .int .i64 k2]] w fun e w' => e = .returned (.tuple #[.int .i64 (cmpD n1 d1 k1 n2 d2 k2), .int .i64 0]) ∧ Below w.heap.size w w' := by
  have hbo := fun W => both_yes h1 h2 W
  obtain ⟨a1, a2, a3, a4, _, a6⟩ := of_decide_eq_true h1
  obtain ⟨b1, b2, b3, b4, _, b6⟩ := of_decide_eq_true h2
  have hlv := fun W => level_any n1 d1 k1 n2 d2 k2 W a6 b6 (by omega) (by omega) (by omega) (by omega) (by omega)
  have hnz1 : n1 = true → dval d1 ≠ 0 := neg_nz h1
  have H1 := Lib.hid h1; have H2 := Lib.hid h2; have HNZ := Lib.hid hnz1
  have hs1 : sgnN n1 (dval d1) = 0 ∨ sgnN n1 (dval d1) = -1 ∨ sgnN n1 (dval d1) = 1 := by
    unfold sgnN; split; exact .inl rfl; split; exact .inr (.inl rfl); exact .inr (.inr rfl)
  have hs2 : sgnN n2 (dval d2) = 0 ∨ sgnN n2 (dval d2) = -1 ∨ sgnN n2 (dval d2) = 1 := by
    unfold sgnN; split; exact .inl rfl; split; exact .inr (.inl rfl); exact .inr (.inr rfl)
  have HS1 := Lib.hid hs1; have HS2 := Lib.hid hs2
  have HG1 := Lib.hid (fun x => sgnN_mul n1 (dval d1) x)
  have HG2 := Lib.hid (fun x => sgnN_mul n2 (dval d2) x)
  clear h1 h2 a6 b6 hnz1 hs1 hs2
  go_enter Tryz.func101, Tryz.ntmps101
  go_wp2_with fail
  refine (hbo _).mono ?_
  rintro e w1 ⟨rfl, hB1⟩
  have ka := ((Blk.new w _ _).alloc _).on hB1
  have kb := (Blk.new' (w.alloc _) _ _ (w.heap.size + 1) (by simp)).on hB1
  have hBw := (((Below.refl w.heap.size w).alloc (Nat.le_refl _) _).alloc (by simp) _).trans (hB1.mono (by simp; omega))
  have ca := ka.cell
  have cb := kb.cell
  clear hbo hB1
  go_wp2_with fail
  refine (hlv _).mono ?_
  rintro e w2 ⟨vx, vy, x, y, rfl, hX, hY, hL, hB2⟩
  obtain ⟨x1, y1, hxy, hx1, hx4, hvx, hvy⟩ := hL
  have ka := ka.on hB2
  have kb := kb.on hB2
  have hBw := hBw.trans (hB2.mono hBw.size)
  have hcp := fun W (hx : Bts W vx x) (hy : Bts W vy y) => slcmp_any vx vy x y W hx hy hxy (by omega) x1 y1
  rw [hvx, hvy] at hcp
  have HR := Lib.hid (show cmpD n1 d1 k1 n2 d2 k2 = cmpZ (sv n1 (dval d1 * 10 ^ (max k1 k2 - k1))) (sv n2 (dval d2 * 10 ^ (max k1 k2 - k2))) from rfl)
  clear ca cb hB2 hlv x1 y1 hxy hx1 hx4 hvx hvy
  have ca := ka.cell
  have cb := kb.cell
  have g1 := HG1.out (max k1 k2 - k1)
  have g2 := HG2.out (max k1 k2 - k2)
  have hnzX : n1 = true → dval d1 * 10 ^ (max k1 k2 - k1) ≠ 0 := fun h e => by
    rcases Nat.mul_eq_zero.1 e with e | e
    · exact HNZ.out h e
    · have := Nat.pow_pos (n := max k1 k2 - k1) (show 0 < 10 by decide); omega
  generalize dval d1 * 10 ^ (max k1 k2 - k1) = X at *
  generalize dval d2 * 10 ^ (max k1 k2 - k2) = Y at *
  have HNX := Lib.hid hnzX; have HG1' := Lib.hid g1; have HG2' := Lib.hid g2
  clear g1 g2 hnzX
  go_wp2_with fail
  refine (hcp _ hX hY).mono ?_
  rintro e w' ⟨rfl, rfl⟩
  have hS := Hold2.mk ka kb hBw (Nat.le_refl _)
  clear ca cb hcp hX hY
  go_upto_region 7 with fail
  by_cases hsd : sgnN n1 (dval d1) = sgnN n2 (dval d2)
  · have HSD := Lib.hid hsd
    go_region_held3 (fun w' => (∀ o, w'.cell? ⟨w.heap.size, o, none⟩ = #[Value.bool n1, Value.string d1, Value.int .i64 k1][o]?) ∧ (∀ o, w'.cell? ⟨w.heap.size + 1, o, none⟩ = #[Value.bool n2, Value.string d2, Value.int .i64 k2][o]?) ∧ Below w.heap.size w w')
      (first | exact hS3.two | exact hS.drew.two)
      (first
        | (go_at_call 128; refine (hold_call (sign_yes (by first | exact H1.out | exact H2.out) _) (by first | exact hS3 | exact hS.drew)).mono ?_; rintro e w3 ⟨rfl, hS3⟩))
    have hcl : cmpN X Y = 0 ∨ cmpN X Y = -1 ∨ cmpN X Y = 1 := by
      unfold cmpN; split; exact .inr (.inl rfl); split; exact .inr (.inr rfl); exact .inl rfl
    have hXY : sgnN n1 X = sgnN n2 Y := HG1'.out.trans (HSD.out.trans HG2'.out.symm)
    have hres : (n1 = true → cmpD n1 d1 k1 n2 d2 k2 = -cmpN X Y) ∧ (n1 = false → cmpD n1 d1 k1 n2 d2 k2 = cmpN X Y) := by
      rw [HR.out]
      refine ⟨fun h => ?_, fun h => ?_⟩
      · have hx := HNX.out h
        subst h
        exact cmp_neg hx hXY
      · subst h
        exact cmp_pos hXY
    have hBw := hS3.2.2.2.2.1
    have ca := hS3.1
    have HRES := Lib.hid hres
    clear hS3 hS hXY hres hsd ka kb
    generalize cmpN X Y = c at *
    have e1 : IntKind.i64.wrap (-c) = -c := IntWalk.i64_in _ (by omega)
    cases n1 with
    | true =>
      have HR2 := Lib.hid (HRES.out.1 rfl)
      go_wp2_with fail
      go_ret2
      exact ⟨by rw [HR2.out]; simp, hBw⟩
    | false =>
      have HR2 := Lib.hid (HRES.out.2 rfl)
      go_wp2_with fail
      go_ret2
      exact ⟨by rw [HR2.out]; simp, hBw⟩
  · have hXY : sgnN n1 X ≠ sgnN n2 Y := fun e => hsd (HG1'.out.symm.trans (e.trans HG2'.out))
    have hres := cmp_signs hXY
    rw [← HR.out, HG1'.out, HG2'.out] at hres
    have HRES := Lib.hid hres
    have e1 : IntKind.i64.wrap (sgnN n1 (dval d1) - sgnN n2 (dval d2)) = sgnN n1 (dval d1) - sgnN n2 (dval d2) := IntWalk.i64_in _ (by have := HS1.out; have := HS2.out; omega)
    clear hres hXY
    go_region_held3 (fun w' => (∀ o, w'.cell? ⟨w.heap.size, o, none⟩ = #[Value.bool n1, Value.string d1, Value.int .i64 k1][o]?) ∧ (∀ o, w'.cell? ⟨w.heap.size + 1, o, none⟩ = #[Value.bool n2, Value.string d2, Value.int .i64 k2][o]?) ∧ Below w.heap.size w w')
      (first | exact hS3.two | exact hS.drew.two)
      (first
        | (go_at_call 128; refine (hold_call (sign_yes (by first | exact H1.out | exact H2.out) _) (by first | exact hS3 | exact hS.drew)).mono ?_; rintro e w3 ⟨rfl, hS3⟩))
    have hS := hS3
    clear hS3
    go_upto_region 8 with fail
    go_region_held3 (fun w' => (∀ o, w'.cell? ⟨w.heap.size, o, none⟩ = #[Value.bool n1, Value.string d1, Value.int .i64 k1][o]?) ∧ (∀ o, w'.cell? ⟨w.heap.size + 1, o, none⟩ = #[Value.bool n2, Value.string d2, Value.int .i64 k2][o]?) ∧ Below w.heap.size w w')
      (first | exact hS3.two | exact hS.drew.two)
      (first
        | (go_at_call 128; refine (hold_call (sign_yes (by first | exact H1.out | exact H2.out) _) (by first | exact hS3 | exact hS.drew)).mono ?_; rintro e w3 ⟨rfl, hS3⟩)
        | (go_at_call 129; refine (sgn_any _ _).mono ?_; rintro e w' ⟨rfl, rfl⟩))
    have hBw := hS3.2.2.2.2.1
    go_wp2_with fail
    go_ret2
    exact ⟨by rw [HRES.out]; simp, hBw⟩

end
end Go.Proofs.YtgbemhehbhlgpaaGreatDoor
