/-
  The reader of files: references by number.
-/
import Derived.Test.YtnmpbphnfiiafaaGreatDoorXmG
namespace Go.Proofs.YtnmpbphnfiiafaaGreatDoor
open Go.RowKit Go.PlainAid

theorem five_none {b : ByteArray} (h : fiveX b = none) : b ≠ ⟨#[108, 116]⟩ ∧ b ≠ ⟨#[103, 116]⟩ ∧ b ≠ ⟨#[97, 109, 112]⟩ ∧ b ≠ ⟨#[113, 117, 111, 116]⟩ ∧ b ≠ ⟨#[97, 112, 111, 115]⟩ := by
  refine ⟨?_, ?_, ?_, ?_, ?_⟩ <;> (rintro rfl; revert h; decide)

set_option maxRecDepth 100000 in
set_option maxHeartbeats 8000000 in
theorem reference_num (t : ByteArray) (w : World) (hG : Gx w) (h1 : 1 ≤ t.size) (hz : t.size ≤ 4000000000) (k : Nat) (hs : semi t 1 = some k) (hf : fiveX (t.extract 1 k) = none) :
    Calls Tryz.prog 76 #[.string t] w fun e w' => RefEnd t w e w' := by
  have hc := cut_any t w hG hz
  have hI : (1 : Int) ≤ t.size := by omega
  rw [hs] at hc
  simp only at hc
  obtain ⟨hk1, hk2, hk59⟩ := semi_in hs
  have hsz : (t.extract 1 k).size = k - 1 := by rw [ByteArray.size_extract]; omega
  have f0 : IntKind.i64.wrap (((t.extract 1 k).size : Int) + 2) = ((k + 1 : Nat) : Int) := by rw [hsz, IntWalk.i64_in _ (by omega)]; omega
  have hb0 : bt (t.extract 1 k) 0 = 35 ↔ bt t 1 = 35 := by
    by_cases hk : k = 1
    · subst hk
      rw [bt_end _ (by rw [hsz]; omega), hk59]
      decide
    · rw [bt_sub t 1 k 0 (by omega) (by omega)]
  have hrt : refT t = if bt t 1 = 35 then (match numX (t.extract 2 k) with | none => none | some r => some (r, k + 1)) else none := by
    unfold refT
    rw [hs]
    simp only
    rw [hf]
    simp only
    by_cases h : bt t 1 = 35
    · rw [if_pos h, if_pos h]
      cases numX (t.extract 2 k) <;> rfl
    · rw [if_neg h, if_neg h]
  obtain ⟨n1, n2, n3, n4, n5⟩ := five_none hf
  have e1 := tl_no n1; have e2 := tl_no n2; have e3 := tl_no n3; have e4 := tl_no n4; have e5 := tl_no n5
  have hcp := fun W => cutPrefix_one (t.extract 1 k) 35 (by decide) W
  rw [show (((35 : UInt8).toNat : Nat) : Int) = 35 from rfl] at hcp
  have her := extract_rest t 1 k (by omega)
  have hkz : k < 4000000000 := by omega
  have HK := Lib.hid hkz
  obtain ⟨B, hB⟩ : ∃ B, t.extract 1 k = B := ⟨_, rfl⟩
  rw [hB] at hc f0 hb0 e1 e2 e3 e4 e5 hcp her
  clear n1 n2 n3 n4 n5 hf hs hsz hB hk1 hk2 hk59 hz hkz
  by_cases h35 : bt B 0 = 35
  · rw [if_pos h35, decide_eq_true h35] at hcp
    rw [if_pos (hb0.1 h35)] at hrt
    rw [her] at hcp
    obtain ⟨D, hD⟩ : ∃ D, t.extract 2 k = D := ⟨_, rfl⟩
    rw [show t.extract (1 + 1) k = D from hD] at hcp
    rw [hD] at hrt
    have HRT := Lib.hid hrt
    have hcx := fun W => cutPrefix_one D 120 (by decide) W
    rw [show (((120 : UInt8).toNat : Nat) : Int) = 120 from rfl] at hcx
    clear hrt her hb0 h35 hD
    by_cases hx120 : bt D 0 = 120
    · rw [if_pos hx120, decide_eq_true hx120] at hcx
      go_enter Tryz.func76, Tryz.ntmps76
      go_wp2_with fail
      refine hc.mono ?_
      rintro e w1 ⟨⟨b, rfl⟩, hB1⟩
      go_wp2_with fail
      refine (hcp w1).mono ?_
      rintro e w' ⟨rfl, rfl⟩
      go_wp2_with fail
      refine (hcx w1).mono ?_
      rintro e w' ⟨rfl, rfl⟩
      clear hc hcp hcx e1 e2 e3 e4 e5
      obtain ⟨n, hn⟩ : ∃ n, (D.extract 1 D.size).size = n := ⟨_, rfl⟩
      have hnum : numX D = numB (D.extract 1 D.size) 16 6 := by unfold numX; rw [if_pos hx120]
      by_cases h0 : n = 0
      · have hr : refT t = none := by rw [HRT.out, hnum]; unfold numB; rw [if_pos (.inl (by rw [hn]; exact h0))]
        have HR := Lib.hid hr
        have hnil : ((D.extract 1 D.size).toList == ([] : List UInt8)) = true := tl_yes (tl_size (by rw [hn]; exact h0))
        clear hr hnum h0
        go_wp2_with fail
        refine bodyPost_ret (v := .tuple #[.int .i32 0, .int .i64 0, .bool false]) (by simp [results, Tryz.results76, go_sem]) rfl ?_
        unfold RefEnd
        rw [HR.out]
        exact ⟨⟨_, _, rfl⟩, hB1⟩
      · have hnil : ((D.extract 1 D.size).toList == ([] : List UInt8)) = false := bytes_ne (by rw [hn]; exact h0)
        by_cases hm : 6 < n
        · have hr : refT t = none := by rw [HRT.out, hnum]; unfold numB; rw [if_pos (.inr (by rw [hn]; exact hm))]
          have HR := Lib.hid hr
          have hmI : (6 : Int) < ((D.extract 1 D.size).size : Int) := by rw [hn]; omega
          clear hr hnum h0 hm
          go_wp2_with fail
          refine bodyPost_ret (v := .tuple #[.int .i32 0, .int .i64 0, .bool false]) (by simp [results, Tryz.results76, go_sem]) rfl ?_
          unfold RefEnd
          rw [HR.out]
          exact ⟨⟨_, _, rfl⟩, hB1⟩
        · have hmI : ¬ (6 : Int) < ((D.extract 1 D.size).size : Int) := by rw [hn]; omega
          have hnb : numB (D.extract 1 D.size) 16 6 = match numF (D.extract 1 D.size) 16 n 0 0 with | none => none | some x => if rChar x = true then some x else none := by
            unfold numB
            rw [if_neg (by rw [hn]; omega), hn]
            generalize numF (D.extract 1 D.size) 16 n 0 0 = z
            cases z <;> rfl
          have HNB := Lib.hid (hnum.trans hnb)
          have HN := Lib.hid hn
          have hm' : n ≤ 6 := by omega
          have HM := Lib.hid hm'
          clear hnum hnb h0 hm hm'
          go_wp2_with fail
          try rw [HN.out]
          go_loopg [14, 69] (n + 1) (fun f s14 s69 wx => ∃ (i : Nat) (x : Int), s14 = .int .i32 x ∧ s69 = .int .i64 (i : Int) ∧ f + i = n + 1 ∧ i ≤ n ∧ numF (D.extract 1 D.size) 16 n 0 0 = numF (D.extract 1 D.size) 16 (n - i) i x ∧ 0 ≤ x ∧ x < ((16 ^ i : Nat) : Int) ∧ Below w.heap.size w wx)
          case atStart => exact ⟨0, 0, rfl, rfl, rfl, Nat.zero_le _, rfl, Int.le_refl _, by decide, hB1⟩
          case round =>
            obtain ⟨i, x, rfl, rfl, hg, hi, hp, hx0, hx1, hBr⟩ := hrel
            have HG := Lib.hid hg; have HP := Lib.hid hp; have HBR := Lib.hid hBr; have HX1 := Lib.hid hx1; have HX0 := Lib.hid hx0
            have hi0 : (0 : Int) ≤ i := by omega
            have hnm := HM.out
            by_cases hlt : i < n
            · have hiI : (i : Int) < n := by omega
              have f1 : IntKind.i64.wrap ((i : Int) + 1) = ((i + 1 : Nat) : Int) := by rw [IntWalk.i64_in _ (by omega)]; omega
              have hid : i < (D.extract 1 D.size).size := by rw [HN.out]; exact hlt
              have hsl : (i : Int) ≤ ((i + 1 : Nat) : Int) := by omega
              have hsl2 : ((i + 1 : Nat) : Int) ≤ ((D.extract 1 D.size).size : Int) := by omega
              have hi10 : (0 : Int) ≤ ((i + 1 : Nat) : Int) := by omega
              have hlo := lower_any ((D.extract 1 D.size).extract i (i + 1)) wr (by rw [ByteArray.size_extract]; omega)
              have hlz : (low ((D.extract 1 D.size).extract i (i + 1))).size = 1 := by rw [lowx_size, ByteArray.size_extract]; omega
              have hdg := fun W => digit_one (D.extract 1 D.size) i hid W
              have hv0 := digV_nonneg (bt (D.extract 1 D.size) i)
              have HLT := Lib.hid hlt
              obtain ⟨LO, hLO⟩ : ∃ LO, low ((D.extract 1 D.size).extract i (i + 1)) = LO := ⟨_, rfl⟩
              rw [hLO] at hlo hlz hdg
              have hlzI : (0 : Int) < (LO.size : Int) := by omega
              have hgb := get_bt LO
              obtain ⟨dv, hdv⟩ : ∃ dv, digV (bt (D.extract 1 D.size) i) = dv := ⟨_, rfl⟩
              rw [hdv] at hdg hv0
              have HDV := Lib.hid hdv
              by_cases hd : dv < 16
              · have hstep : numF (D.extract 1 D.size) 16 n 0 0 = numF (D.extract 1 D.size) 16 (n - (i + 1)) (i + 1) (x * 16 + dv) := by
                  rw [hp, show n - i = (n - (i + 1)) + 1 by omega, numF_some (by rw [hdv]; exact hd), hdv]
                have h16 : dv < 16 := by omega
                rw [if_pos h16] at hdg
                have hpw : 16 ^ (i + 1) = 16 ^ i * 16 := Nat.pow_succ _ _
                have hpm : 16 ^ (i + 1) ≤ 16 ^ 6 := Nat.pow_le_pow_right (by decide) (by omega)
                have hpe : 16 ^ 6 = 16777216 := by decide
                have hx2 : x * 16 + dv < ((16 ^ (i + 1) : Nat) : Int) := by rw [hpw]; omega
                have hx3 : 0 ≤ x * 16 + dv := by omega
                have hxm : x * 16 + dv < 16777216 := by omega
                have w1 : IntKind.i32.wrap dv = dv := by rw [IntKind.wrap_i32]; omega
                have w2 : IntKind.i32.wrap (x * 16) = x * 16 := by rw [IntKind.wrap_i32]; omega
                have w3 : IntKind.i32.wrap (x * 16 + dv) = x * 16 + dv := by rw [IntKind.wrap_i32]; omega
                have hdn : ¬ dv < 0 := by omega
                have hdb : ¬ 16 ≤ dv := by omega
                have HST := Lib.hid hstep; have HX2 := Lib.hid hx2; have HX3 := Lib.hid hx3
                clear hstep hpw hpm hpe hx2 hx3 hxm hp hg hx0 hx1 hBr hlt hid hdv hlz hLO h16
                go_wp2_with fail
                refine hlo.mono ?_
                rintro e w2' ⟨rfl, hB2⟩
                have HB2 := Lib.hid (HBR.out.trans (hB2.mono HBR.out.size))
                clear hlo hB2
                go_wp2_with fail
                refine (hdg w2').mono ?_
                rintro e w' ⟨rfl, rfl⟩
                go_wp2_with fail
                go_roundg (n - i)
                case rel => exact ⟨i + 1, x * 16 + dv, by simp, by simp, by have := HG.out; have := HLT.out; omega, HLT.out, HST.out, HX3.out, HX2.out, HB2.out⟩
                case measure => have := HG.out; have := HLT.out; omega
              · have hres : numF (D.extract 1 D.size) 16 n 0 0 = none := by
                  rw [hp, show n - i = (n - (i + 1)) + 1 by omega, numF_none (by rw [hdv]; exact hd)]
                have hr : refT t = none := by rw [HRT.out, HNB.out, hres]
                have HR := Lib.hid hr
                have hcase : ((if dv < 16 then dv else -1) = -1) ∨ ((if dv < 16 then dv else -1) = dv ∧ 16 ≤ dv ∧ dv < 16) := by
                  by_cases h16 : dv < 16
                  · exact .inr ⟨if_pos h16, by omega, h16⟩
                  · exact .inl (if_neg h16)
                clear hres hr hp hg hx0 hx1 hBr hlt hid hdv hlz hLO
                rcases hcase with hcc | ⟨hcc, hcb, hc16⟩
                all_goals
                  rw [hcc] at hdg
                  first
                    | have w1 : IntKind.i32.wrap dv = dv := by rw [IntKind.wrap_i32]; omega
                    | have w1 : IntKind.i32.wrap (-1) = -1 := by decide
                  have hdn : decide (dv < 0) = false := by simpa using hv0
                  clear hcc
                  go_wp2_with fail
                  refine hlo.mono ?_
                  rintro e w2' ⟨rfl, hB2⟩
                  have HB2 := Lib.hid (HBR.out.trans (hB2.mono HBR.out.size))
                  clear hlo hB2
                  go_wp2_with fail
                  refine (hdg w2').mono ?_
                  rintro e w' ⟨rfl, rfl⟩
                  go_wp2_with fail
                  refine bodyPost_ret (v := .tuple #[.int .i32 0, .int .i64 0, .bool false]) (by simp [results, Tryz.results76, go_sem]) rfl ?_
                  unfold RefEnd
                  rw [HR.out]
                  exact ⟨⟨_, _, rfl⟩, HB2.out⟩
            · have hiI : ¬ (i : Int) < n := by omega
              have hres : numF (D.extract 1 D.size) 16 n 0 0 = some x := by
                rw [hp, show n - i = 0 by omega]
                rfl
              have hch := char_any x wr
              cases hrc : rChar x with
              | true =>
                rw [hrc] at hch
                have hr : refT t = some (x, k + 1) := by rw [HRT.out, HNB.out, hres]; simp only; rw [if_pos hrc]
                have HR := Lib.hid hr
                clear hres hr hp hg hlt hrc
                go_wp2_with fail
                refine hch.mono ?_
                rintro e w' ⟨rfl, rfl⟩
                go_wp2_with fail
                refine bodyPost_ret (v := .tuple #[.int .i32 x, .int .i64 ((k + 1 : Nat) : Int), .bool true]) (by simp [results, Tryz.results76, go_sem]) rfl ?_
                unfold RefEnd
                rw [HR.out]
                exact ⟨rfl, HBR.out⟩
              | false =>
                rw [hrc] at hch
                have hr : refT t = none := by rw [HRT.out, HNB.out, hres]; simp only; rw [if_neg (by rw [hrc]; simp)]
                have HR := Lib.hid hr
                clear hres hr hp hg hlt hrc
                go_wp2_with fail
                refine hch.mono ?_
                rintro e w' ⟨rfl, rfl⟩
                go_wp2_with fail
                refine bodyPost_ret (v := .tuple #[.int .i32 x, .int .i64 ((k + 1 : Nat) : Int), .bool false]) (by simp [results, Tryz.results76, go_sem]) rfl ?_
                unfold RefEnd
                rw [HR.out]
                exact ⟨⟨_, _, rfl⟩, HBR.out⟩
    · rw [if_neg hx120, decide_eq_false hx120] at hcx
      go_enter Tryz.func76, Tryz.ntmps76
      go_wp2_with fail
      refine hc.mono ?_
      rintro e w1 ⟨⟨b, rfl⟩, hB1⟩
      go_wp2_with fail
      refine (hcp w1).mono ?_
      rintro e w' ⟨rfl, rfl⟩
      go_wp2_with fail
      refine (hcx w1).mono ?_
      rintro e w' ⟨rfl, rfl⟩
      clear hc hcp hcx e1 e2 e3 e4 e5
      obtain ⟨n, hn⟩ : ∃ n, (D).size = n := ⟨_, rfl⟩
      have hnum : numX D = numB (D) 10 7 := by unfold numX; rw [if_neg hx120]
      by_cases h0 : n = 0
      · have hr : refT t = none := by rw [HRT.out, hnum]; unfold numB; rw [if_pos (.inl (by rw [hn]; exact h0))]
        have HR := Lib.hid hr
        have hnil : ((D).toList == ([] : List UInt8)) = true := tl_yes (tl_size (by rw [hn]; exact h0))
        clear hr hnum h0
        go_wp2_with fail
        refine bodyPost_ret (v := .tuple #[.int .i32 0, .int .i64 0, .bool false]) (by simp [results, Tryz.results76, go_sem]) rfl ?_
        unfold RefEnd
        rw [HR.out]
        exact ⟨⟨_, _, rfl⟩, hB1⟩
      · have hnil : ((D).toList == ([] : List UInt8)) = false := bytes_ne (by rw [hn]; exact h0)
        by_cases hm : 7 < n
        · have hr : refT t = none := by rw [HRT.out, hnum]; unfold numB; rw [if_pos (.inr (by rw [hn]; exact hm))]
          have HR := Lib.hid hr
          have hmI : (7 : Int) < ((D).size : Int) := by rw [hn]; omega
          clear hr hnum h0 hm
          go_wp2_with fail
          refine bodyPost_ret (v := .tuple #[.int .i32 0, .int .i64 0, .bool false]) (by simp [results, Tryz.results76, go_sem]) rfl ?_
          unfold RefEnd
          rw [HR.out]
          exact ⟨⟨_, _, rfl⟩, hB1⟩
        · have hmI : ¬ (7 : Int) < ((D).size : Int) := by rw [hn]; omega
          have hnb : numB (D) 10 7 = match numF (D) 10 n 0 0 with | none => none | some x => if rChar x = true then some x else none := by
            unfold numB
            rw [if_neg (by rw [hn]; omega), hn]
            generalize numF (D) 10 n 0 0 = z
            cases z <;> rfl
          have HNB := Lib.hid (hnum.trans hnb)
          have HN := Lib.hid hn
          have hm' : n ≤ 7 := by omega
          have HM := Lib.hid hm'
          clear hnum hnb h0 hm hm'
          go_wp2_with fail
          try rw [HN.out]
          go_loopg [14, 69] (n + 1) (fun f s14 s69 wx => ∃ (i : Nat) (x : Int), s14 = .int .i32 x ∧ s69 = .int .i64 (i : Int) ∧ f + i = n + 1 ∧ i ≤ n ∧ numF (D) 10 n 0 0 = numF (D) 10 (n - i) i x ∧ 0 ≤ x ∧ x < ((10 ^ i : Nat) : Int) ∧ Below w.heap.size w wx)
          case atStart => exact ⟨0, 0, rfl, rfl, rfl, Nat.zero_le _, rfl, Int.le_refl _, by decide, hB1⟩
          case round =>
            obtain ⟨i, x, rfl, rfl, hg, hi, hp, hx0, hx1, hBr⟩ := hrel
            have HG := Lib.hid hg; have HP := Lib.hid hp; have HBR := Lib.hid hBr; have HX1 := Lib.hid hx1; have HX0 := Lib.hid hx0
            have hi0 : (0 : Int) ≤ i := by omega
            have hnm := HM.out
            by_cases hlt : i < n
            · have hiI : (i : Int) < n := by omega
              have f1 : IntKind.i64.wrap ((i : Int) + 1) = ((i + 1 : Nat) : Int) := by rw [IntWalk.i64_in _ (by omega)]; omega
              have hid : i < (D).size := by rw [HN.out]; exact hlt
              have hsl : (i : Int) ≤ ((i + 1 : Nat) : Int) := by omega
              have hsl2 : ((i + 1 : Nat) : Int) ≤ ((D).size : Int) := by omega
              have hi10 : (0 : Int) ≤ ((i + 1 : Nat) : Int) := by omega
              have hlo := lower_any ((D).extract i (i + 1)) wr (by rw [ByteArray.size_extract]; omega)
              have hlz : (low ((D).extract i (i + 1))).size = 1 := by rw [lowx_size, ByteArray.size_extract]; omega
              have hdg := fun W => digit_one (D) i hid W
              have hv0 := digV_nonneg (bt (D) i)
              have HLT := Lib.hid hlt
              obtain ⟨LO, hLO⟩ : ∃ LO, low ((D).extract i (i + 1)) = LO := ⟨_, rfl⟩
              rw [hLO] at hlo hlz hdg
              have hlzI : (0 : Int) < (LO.size : Int) := by omega
              have hgb := get_bt LO
              obtain ⟨dv, hdv⟩ : ∃ dv, digV (bt (D) i) = dv := ⟨_, rfl⟩
              rw [hdv] at hdg hv0
              have HDV := Lib.hid hdv
              by_cases hd : dv < 10
              · have hstep : numF (D) 10 n 0 0 = numF (D) 10 (n - (i + 1)) (i + 1) (x * 10 + dv) := by
                  rw [hp, show n - i = (n - (i + 1)) + 1 by omega, numF_some (by rw [hdv]; exact hd), hdv]
                have h16 : dv < 16 := by omega
                rw [if_pos h16] at hdg
                have hpw : 10 ^ (i + 1) = 10 ^ i * 10 := Nat.pow_succ _ _
                have hpm : 10 ^ (i + 1) ≤ 10 ^ 7 := Nat.pow_le_pow_right (by decide) (by omega)
                have hpe : 10 ^ 7 = 10000000 := by decide
                have hx2 : x * 10 + dv < ((10 ^ (i + 1) : Nat) : Int) := by rw [hpw]; omega
                have hx3 : 0 ≤ x * 10 + dv := by omega
                have hxm : x * 10 + dv < 10000000 := by omega
                have w1 : IntKind.i32.wrap dv = dv := by rw [IntKind.wrap_i32]; omega
                have w2 : IntKind.i32.wrap (x * 10) = x * 10 := by rw [IntKind.wrap_i32]; omega
                have w3 : IntKind.i32.wrap (x * 10 + dv) = x * 10 + dv := by rw [IntKind.wrap_i32]; omega
                have hdn : ¬ dv < 0 := by omega
                have hdb : ¬ 10 ≤ dv := by omega
                have HST := Lib.hid hstep; have HX2 := Lib.hid hx2; have HX3 := Lib.hid hx3
                clear hstep hpw hpm hpe hx2 hx3 hxm hp hg hx0 hx1 hBr hlt hid hdv hlz hLO h16
                go_wp2_with fail
                refine hlo.mono ?_
                rintro e w2' ⟨rfl, hB2⟩
                have HB2 := Lib.hid (HBR.out.trans (hB2.mono HBR.out.size))
                clear hlo hB2
                go_wp2_with fail
                refine (hdg w2').mono ?_
                rintro e w' ⟨rfl, rfl⟩
                go_wp2_with fail
                go_roundg (n - i)
                case rel => exact ⟨i + 1, x * 10 + dv, by simp, by simp, by have := HG.out; have := HLT.out; omega, HLT.out, HST.out, HX3.out, HX2.out, HB2.out⟩
                case measure => have := HG.out; have := HLT.out; omega
              · have hres : numF (D) 10 n 0 0 = none := by
                  rw [hp, show n - i = (n - (i + 1)) + 1 by omega, numF_none (by rw [hdv]; exact hd)]
                have hr : refT t = none := by rw [HRT.out, HNB.out, hres]
                have HR := Lib.hid hr
                have hcase : ((if dv < 16 then dv else -1) = -1) ∨ ((if dv < 16 then dv else -1) = dv ∧ 10 ≤ dv ∧ dv < 16) := by
                  by_cases h16 : dv < 16
                  · exact .inr ⟨if_pos h16, by omega, h16⟩
                  · exact .inl (if_neg h16)
                clear hres hr hp hg hx0 hx1 hBr hlt hid hdv hlz hLO
                rcases hcase with hcc | ⟨hcc, hcb, hc16⟩
                all_goals
                  rw [hcc] at hdg
                  first
                    | have w1 : IntKind.i32.wrap dv = dv := by rw [IntKind.wrap_i32]; omega
                    | have w1 : IntKind.i32.wrap (-1) = -1 := by decide
                  have hdn : decide (dv < 0) = false := by simpa using hv0
                  clear hcc
                  go_wp2_with fail
                  refine hlo.mono ?_
                  rintro e w2' ⟨rfl, hB2⟩
                  have HB2 := Lib.hid (HBR.out.trans (hB2.mono HBR.out.size))
                  clear hlo hB2
                  go_wp2_with fail
                  refine (hdg w2').mono ?_
                  rintro e w' ⟨rfl, rfl⟩
                  go_wp2_with fail
                  refine bodyPost_ret (v := .tuple #[.int .i32 0, .int .i64 0, .bool false]) (by simp [results, Tryz.results76, go_sem]) rfl ?_
                  unfold RefEnd
                  rw [HR.out]
                  exact ⟨⟨_, _, rfl⟩, HB2.out⟩
            · have hiI : ¬ (i : Int) < n := by omega
              have hres : numF (D) 10 n 0 0 = some x := by
                rw [hp, show n - i = 0 by omega]
                rfl
              have hch := char_any x wr
              cases hrc : rChar x with
              | true =>
                rw [hrc] at hch
                have hr : refT t = some (x, k + 1) := by rw [HRT.out, HNB.out, hres]; simp only; rw [if_pos hrc]
                have HR := Lib.hid hr
                clear hres hr hp hg hlt hrc
                go_wp2_with fail
                refine hch.mono ?_
                rintro e w' ⟨rfl, rfl⟩
                go_wp2_with fail
                refine bodyPost_ret (v := .tuple #[.int .i32 x, .int .i64 ((k + 1 : Nat) : Int), .bool true]) (by simp [results, Tryz.results76, go_sem]) rfl ?_
                unfold RefEnd
                rw [HR.out]
                exact ⟨rfl, HBR.out⟩
              | false =>
                rw [hrc] at hch
                have hr : refT t = none := by rw [HRT.out, HNB.out, hres]; simp only; rw [if_neg (by rw [hrc]; simp)]
                have HR := Lib.hid hr
                clear hres hr hp hg hlt hrc
                go_wp2_with fail
                refine hch.mono ?_
                rintro e w' ⟨rfl, rfl⟩
                go_wp2_with fail
                refine bodyPost_ret (v := .tuple #[.int .i32 x, .int .i64 ((k + 1 : Nat) : Int), .bool false]) (by simp [results, Tryz.results76, go_sem]) rfl ?_
                unfold RefEnd
                rw [HR.out]
                exact ⟨⟨_, _, rfl⟩, HBR.out⟩
  · rw [if_neg h35, decide_eq_false h35] at hcp
    rw [if_neg (fun e => h35 (hb0.2 e))] at hrt
    have HR := Lib.hid hrt
    clear hrt her hb0 h35
    go_enter Tryz.func76, Tryz.ntmps76
    go_wp2_with fail
    refine hc.mono ?_
    rintro e w1 ⟨⟨b, rfl⟩, hB1⟩
    go_wp2_with fail
    refine (hcp w1).mono ?_
    rintro e w' ⟨rfl, rfl⟩
    go_wp2_with fail
    refine bodyPost_ret (v := .tuple #[.int .i32 0, .int .i64 0, .bool false]) (by simp [results, Tryz.results76, go_sem]) rfl ?_
    unfold RefEnd
    rw [HR.out]
    exact ⟨⟨_, _, rfl⟩, hB1⟩
/-- What a reference is. -/
theorem reference_any (t : ByteArray) (w : World) (hG : Gx w) (h1 : 1 ≤ t.size) (hz : t.size ≤ 4000000000) :
    Calls Tryz.prog 76 #[.string t] w fun e w' => RefEnd t w e w' := by
  cases hs : semi t 1 with
  | none => exact reference_five t w hG h1 hz (.inl hs)
  | some k =>
    cases hf : fiveX (t.extract 1 k) with
    | some r => exact reference_five t w hG h1 hz (.inr ⟨k, r, hs, hf⟩)
    | none => exact reference_num t w hG h1 hz k hs hf
end Go.Proofs.YtnmpbphnfiiafaaGreatDoor
