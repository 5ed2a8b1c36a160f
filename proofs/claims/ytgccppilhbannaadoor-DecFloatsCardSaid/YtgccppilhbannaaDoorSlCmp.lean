/-
  The walks of cmp.Compare and slices.Compare over bytes: texts of digits of one length are compared as numbers.
-/
import Derived.Test.YtgccppilhbannaaDoorBts
import Derived.Test.YtgccppilhbannaaDoorDecUp
namespace Go.Proofs.YtgccppilhbannaaDoor
open Go.RowKit Go.PlainAid

def cmpI (a b : Int) : Int := if a < b then -1 else if b < a then 1 else 0

/-- Texts of one length are compared at the first place where they differ. -/
theorem cmp_first {s t : ByteArray} (hs : AllDig s) (ht : AllDig t) (hz : s.size = t.size) (p : Nat) (hp : p < s.size) (heq : ∀ j, j < p → bt s j = bt t j) (hne : bt s p ≠ bt t p) : cmpN (dval s) (dval t) = cmpI (bt s p) (bt t p) := by
  have e1 := low_get hs p (s.size - 1 - p) hp (by omega)
  have e2 := low_get ht p (s.size - 1 - p) (by omega) (by omega)
  have hE : EqFrom (low s) (low t) (s.size - 1 - p + 1) := fun j hj => by
    by_cases h : j < s.size
    · have g1 := low_get hs (s.size - 1 - j) j (by omega) (by omega)
      have g2 := low_get ht (s.size - 1 - j) j (by omega) (by omega)
      have g3 := heq (s.size - 1 - j) (by omega)
      omega
    · rw [List.getD_eq_getElem?_getD, List.getD_eq_getElem?_getD, List.getElem?_eq_none (by rw [low_length]; omega), List.getElem?_eq_none (by rw [low_length]; omega)]
  have hE' : EqFrom (low t) (low s) (s.size - 1 - p + 1) := fun j hj => (hE j hj).symm
  have hv1 : dval s = rowval (low s) := rfl
  have hv2 : dval t = rowval (low t) := rfl
  have l1 := less_at (low_lt hs) (low_lt ht) hE (by omega)
  have l2 := less_at (low_lt ht) (low_lt hs) hE' (by omega)
  unfold cmpN cmpI
  rw [hv1, hv2]
  by_cases h : bt s p < bt t p
  · rw [if_pos h, if_pos (l1.2 (by omega))]
  · rw [if_neg h, if_neg (fun g => h (by have := l1.1 g; omega)), if_pos (l2.2 (by omega)), if_pos (by omega)]
theorem cmp_all {s t : ByteArray} (hz : s.size = t.size) (heq : ∀ j, j < s.size → bt s j = bt t j) : cmpN (dval s) (dval t) = 0 := by
  rw [bytes_eq hz heq]
  unfold cmpN
  rw [if_neg (by omega), if_neg (by omega)]

set_option maxRecDepth 100000 in
theorem isNaN_byte (a : Int) (w : World) : Calls Tryd.prog 105 #[.int .u8 a] w fun e w' => e = .returned (.bool false) ∧ w = w' := by
  go_enter Tryd.func105, Tryd.ntmps105
  go_wp2_with fail
  go_ret
  exact ⟨by simp, rfl⟩
set_option maxRecDepth 100000 in
theorem cmpb_any (a b : Int) (w : World) : Calls Tryd.prog 90 #[.int .u8 a, .int .u8 b] w fun e w' => e = .returned (.int .i64 (cmpI a b)) ∧ w = w' := by
  have h3 : (a < b ∧ cmpI a b = -1) ∨ (¬ a < b ∧ b < a ∧ cmpI a b = 1) ∨ (¬ a < b ∧ ¬ b < a ∧ cmpI a b = 0) := by
    unfold cmpI
    by_cases h : a < b
    · exact .inl ⟨h, if_pos h⟩
    · by_cases g : b < a
      · exact .inr (.inl ⟨h, g, by rw [if_neg h, if_pos g]⟩)
      · exact .inr (.inr ⟨h, g, by rw [if_neg h, if_neg g]⟩)
  obtain ⟨c, hc⟩ : ∃ c, cmpI a b = c := ⟨_, rfl⟩
  rw [hc] at h3 ⊢
  clear hc
  go_enter Tryd.func90, Tryd.ntmps90
  go_wp2_with fail
  refine (isNaN_byte _ _).mono ?_
  rintro e w' ⟨rfl, rfl⟩
  go_wp2_with fail
  refine (isNaN_byte _ _).mono ?_
  rintro e w' ⟨rfl, rfl⟩
  rcases h3 with ⟨h, rfl⟩ | ⟨h, g, rfl⟩ | ⟨h, g, rfl⟩
  all_goals
    go_wp2_with fail
    go_ret
    exact ⟨rfl, rfl⟩

set_option maxRecDepth 100000 in
set_option maxHeartbeats 2000000 in
theorem slcmp_any (vx vy : Value) (s t : ByteArray) (w : World) (hvx : Bts w vx s) (hvy : Bts w vy t) (hz : s.size = t.size) (hb : s.size ≤ 1000000) (hs : AllDig s) (ht : AllDig t) :
    Calls Tryd.prog 62 #[vx, vy] w fun e w' => e = .returned (.int .i64 (cmpN (dval s) (dval t))) ∧ w = w' := by
  obtain ⟨gx, ox, cx, rfl, hgx, hcx, hmx, hx⟩ := hvx
  obtain ⟨gy, oy, cy, rfl, hgy, hcy, hmy, hy⟩ := hvy
  rw [← hz] at hcy hy ⊢
  have HX := Lib.hid hx; have HY := Lib.hid hy
  have HF := Lib.hid (fun p hp heq hne => cmp_first hs ht hz p hp heq hne)
  have HA := Lib.hid (fun heq => cmp_all hz heq)
  clear hx hy hs ht hz
  obtain ⟨c, hc⟩ : ∃ c, cmpN (dval s) (dval t) = c := ⟨_, rfl⟩
  rw [hc] at HF HA ⊢
  clear hc
  go_enter Tryd.func62, Tryd.ntmps62
  go_wp2_with fail
  go_loopw [11] (fun i wr => ∃ p : Nat, p ≤ s.size ∧ i = .int .i64 (p : Int) ∧ w = wr ∧ ∀ j, j < p → bt s j = bt t j) (fun i _ => (s.size - intOf i).toNat)
  case atStart => exact ⟨0, Nat.zero_le _, rfl, rfl, fun j hj => absurd hj (by omega)⟩
  case round =>
    obtain ⟨p, hp, rfl, rfl, hpre⟩ := hrel
    have HPRE := Lib.hid hpre; clear hpre
    by_cases hlt : p < s.size
    · have hx := HX.out p hlt
      have hy := HY.out p hlt
      have e1 : IntKind.i64.wrap ((p : Int) + 1) = (p : Int) + 1 := IntWalk.i64_in _ (by omega)
      by_cases hne : bt s p = bt t p
      · have hc : cmpI (bt s p) (bt t p) = 0 := by rw [hne]; unfold cmpI; rw [if_neg (by omega), if_neg (by omega)]
        have hp2 : ∀ j, j < p + 1 → bt s j = bt t j := fun j hj => by
          by_cases h : j = p
          · rw [h]; exact hne
          · exact HPRE.out j (by omega)
        have HP2 := Lib.hid hp2
        clear hne hp2
        generalize bt s p = a at *
        generalize bt t p = b at *
        go_wp2_with fail
        refine (cmpb_any _ _ _).mono ?_
        rintro e w' ⟨rfl, rfl⟩
        rw [hc]
        go_wp2_with fail
        refine ⟨⟨p + 1, by omega, rfl, by first | trivial | rfl, HP2.out⟩, by first | (simp [intOf]; done) | (simp [intOf]; omega)⟩
      · have hc := HF.out p hlt HPRE.out hne
        have h0 : c ≠ 0 := by
          rw [hc]
          unfold cmpI
          by_cases h : bt s p < bt t p
          · rw [if_pos h]; omega
          · rw [if_neg h, if_pos (by omega)]; omega
        have HC := Lib.hid hc
        clear hne hc
        generalize bt s p = a at *
        generalize bt t p = b at *
        go_wp2_with fail
        refine (cmpb_any _ _ _).mono ?_
        rintro e w' ⟨rfl, rfl⟩
        rw [← HC.out]
        go_wp2_with fail
        go_ret
        exact ⟨rfl, rfl⟩
    · have hc := HA.out (fun j hj => HPRE.out j (by omega))
      subst hc
      go_wp2_with fail
      go_ret
      exact ⟨rfl, rfl⟩
end Go.Proofs.YtgccppilhbannaaDoor
