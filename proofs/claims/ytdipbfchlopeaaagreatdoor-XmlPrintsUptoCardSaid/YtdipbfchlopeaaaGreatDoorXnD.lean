/-
  The reader of files: references by number.
  The reader of files: a rune of a text, or a reference, into a builder.
  The reader of files: a builder of its own, pieces of a value.
-/
import Derived.Test.YtdipbfchlopeaaaGreatDoorXnC
namespace Go.Proofs.YtdipbfchlopeaaaGreatDoor
section
open Go.RowKit Go.PlainAid

theorem five_none {b : ByteArray} (h : fiveX b = none) : b ≠ ⟨#[108, 116]⟩ ∧ b ≠ ⟨#[103, 116]⟩ ∧ b ≠ ⟨#[97, 109, 112]⟩ ∧ b ≠ ⟨#[113, 117, 111, 116]⟩ ∧ b ≠ ⟨#[97, 112, 111, 115]⟩ := by
  refine ⟨?_, ?_, ?_, ?_, ?_⟩ <;> (rintro rfl; revert h; decide)

set_option maxRecDepth 100000 in
set_option maxHeartbeats 8000000 in
theorem reference_num (t : ByteArray) (w : World) (hG : Gx w) (h1 : 1 ≤ t.size) (hz : t.size ≤ 4000000000) (k : Nat) (hs : semi t 1 = some k) (hf : fiveX (t.extract 1 k) = none) :
    Calls Tryz.prog 100 #[.string t] w fun e w' => RefEnd t w e w' := by
  have hc := cut_any t w hG hz
  have hI : (1 : Int) ≤ t.size := by omega
  rw [hs] at hc
  simp only at hc
  obtain ⟨hk1, hk2, hk59⟩ := semi_in hs
  have hsz : (t.extract 1 k).size = k - 1 := by rw [ByteArray.size_extract]; omega
  have f0 : IntKind.i64.wrap (((t.extract 1 k).size : Int) + 2) = ((k + 1 : Nat) : Int) := by rw [hsz, IntWalk.i64_in _ (by omega)]; omega
  have hb0 : bt (t.extract 1 k) 0 = 35 ↔ bt t 1 = 35 := by
    by_cases hk : k = 1
    · subst hk
      rw [bt_end _ (by rw [hsz]; omega), hk59]
      decide
    · rw [bt_sub t 1 k 0 (by omega) (by omega)]
  have hrt : refT t = if bt t 1 = 35 then (match numX (t.extract 2 k) with | none => none | some r => some (r, k + 1)) else none := by
    unfold refT
    rw [hs]
    simp only
    rw [hf]
    simp only
    by_cases h : bt t 1 = 35
    · rw [if_pos h, if_pos h]
      cases numX (t.extract 2 k) <;> rfl
    · rw [if_neg h, if_neg h]
  obtain ⟨n1, n2, n3, n4, n5⟩ := five_none hf
  have e1 := tl_no n1; have e2 := tl_no n2; have e3 := tl_no n3; have e4 := tl_no n4; have e5 := tl_no n5
  have hcp := fun W => cutPrefix_one (t.extract 1 k) 35 (by decide) W
  rw [show (((35 : UInt8).toNat : Nat) : Int) = 35 from rfl] at hcp
  have her := extract_rest t 1 k (by omega)
  have hkz : k < 4000000000 := by omega
  have HK := Lib.hid hkz
  obtain ⟨B, hB⟩ : ∃ B, t.extract 1 k = B := ⟨_, rfl⟩
  rw [hB] at hc f0 hb0 e1 e2 e3 e4 e5 hcp her
  clear n1 n2 n3 n4 n5 hf hs hsz hB hk1 hk2 hk59 hz hkz
  by_cases h35 : bt B 0 = 35
  · rw [if_pos h35, decide_eq_true h35] at hcp
    rw [if_pos (hb0.1 h35)] at hrt
    rw [her] at hcp
    obtain ⟨D, hD⟩ : ∃ D, t.extract 2 k = D := ⟨_, rfl⟩
    rw [show t.extract (1 + 1) k = D from hD] at hcp
    rw [hD] at hrt
    have HRT := Lib.hid hrt
    have hcx := fun W => cutPrefix_one D 120 (by decide) W
    rw [show (((120 : UInt8).toNat : Nat) : Int) = 120 from rfl] at hcx
    clear hrt her hb0 h35 hD
    by_cases hx120 : bt D 0 = 120
    · rw [if_pos hx120, decide_eq_true hx120] at hcx
      go_enter Tryz.func100, Tryz.ntmps100
      go_wp2_with fail
      refine hc.mono ?_
      rintro e w1 ⟨⟨b, rfl⟩, hB1⟩
      go_wp2_with fail
      refine (hcp w1).mono ?_
      rintro e w' ⟨rfl, rfl⟩
      go_wp2_with fail
      refine (hcx w1).mono ?_
      rintro e w' ⟨rfl, rfl⟩
      clear hc hcp hcx e1 e2 e3 e4 e5
      obtain ⟨n, hn⟩ : ∃ n, (D.extract 1 D.size).size = n := ⟨_, rfl⟩
      have hnum : numX D = numB (D.extract 1 D.size) 16 6 := by unfold numX; rw [if_pos hx120]
      by_cases h0 : n = 0
      · have hr : refT t = none := by rw [HRT.out, hnum]; unfold numB; rw [if_pos (.inl (by rw [hn]; exact h0))]
        have HR := Lib.hid hr
        have hnil : ((D.extract 1 D.size).toList == ([] : List UInt8)) = true := tl_yes (tl_size (by rw [hn]; exact h0))
        clear hr hnum h0
        go_wp2_with fail
        refine bodyPost_ret (v := .tuple #[.int .i32 0, .int .i64 0, .bool false]) (by simp [results, Tryz.results100, go_sem]) rfl ?_
        unfold RefEnd
        rw [HR.out]
        exact ⟨⟨_, _, rfl⟩, hB1⟩
      · have hnil : ((D.extract 1 D.size).toList == ([] : List UInt8)) = false := bytes_ne (by rw [hn]; exact h0)
        by_cases hm : 6 < n
        · have hr : refT t = none := by rw [HRT.out, hnum]; unfold numB; rw [if_pos (.inr (by rw [hn]; exact hm))]
          have HR := Lib.hid hr
          have hmI : (6 : Int) < ((D.extract 1 D.size).size : Int) := by rw [hn]; omega
          clear hr hnum h0 hm
          go_wp2_with fail
          refine bodyPost_ret (v := .tuple #[.int .i32 0, .int .i64 0, .bool false]) (by simp [results, Tryz.results100, go_sem]) rfl ?_
          unfold RefEnd
          rw [HR.out]
          exact ⟨⟨_, _, rfl⟩, hB1⟩
        · have hmI : ¬ (6 : Int) < ((D.extract 1 D.size).size : Int) := by rw [hn]; omega
          have hnb : numB (D.extract 1 D.size) 16 6 = match numF (D.extract 1 D.size) 16 n 0 0 with | none => none | some x => if rChar x = true then some x else none := by
            unfold numB
            rw [if_neg (by rw [hn]; omega), hn]
            generalize numF (D.extract 1 D.size) 16 n 0 0 = z
            cases z <;> rfl
          have HNB := Lib.hid (hnum.trans hnb)
          have HN := Lib.hid hn
          have hm' : n ≤ 6 := by omega
          have HM := Lib.hid hm'
          clear hnum hnb h0 hm hm'
          go_wp2_with fail
          try rw [HN.out]
          go_loopg [14, 69] (n + 1) (fun f s14 s69 wx => ∃ (i : Nat) (x : Int), s14 = .int .i32 x ∧ s69 = .int .i64 (i : Int) ∧ f + i = n + 1 ∧ i ≤ n ∧ numF (D.extract 1 D.size) 16 n 0 0 = numF (D.extract 1 D.size) 16 (n - i) i x ∧ 0 ≤ x ∧ x < ((16 ^ i : Nat) : Int) ∧ Below w.heap.size w wx)
          case atStart => exact ⟨0, 0, rfl, rfl, rfl, Nat.zero_le _, rfl, Int.le_refl _, by decide, hB1⟩
          case round =>
            obtain ⟨i, x, rfl, rfl, hg, hi, hp, hx0, hx1, hBr⟩ := hrel
            have HG := Lib.hid hg; have HP := Lib.hid hp; have HBR := Lib.hid hBr; have HX1 := Lib.hid hx1; have HX0 := Lib.hid hx0
            have hi0 : (0 : Int) ≤ i := by omega
            have hnm := HM.out
            by_cases hlt : i < n
            · have hiI : (i : Int) < n := by omega
              have f1 : IntKind.i64.wrap ((i : Int) + 1) = ((i + 1 : Nat) : Int) := by rw [IntWalk.i64_in _ (by omega)]; omega
              have hid : i < (D.extract 1 D.size).size := by rw [HN.out]; exact hlt
              have hsl : (i : Int) ≤ ((i + 1 : Nat) : Int) := by omega
              have hsl2 : ((i + 1 : Nat) : Int) ≤ ((D.extract 1 D.size).size : Int) := by omega
              have hi10 : (0 : Int) ≤ ((i + 1 : Nat) : Int) := by omega
              have hlo := lower_any ((D.extract 1 D.size).extract i (i + 1)) wr (by rw [ByteArray.size_extract]; omega)
              have hlz : (low ((D.extract 1 D.size).extract i (i + 1))).size = 1 := by rw [lowx_size, ByteArray.size_extract]; omega
              have hdg := fun W => digit_one (D.extract 1 D.size) i hid W
              have hv0 := digV_nonneg (bt (D.extract 1 D.size) i)
              have HLT := Lib.hid hlt
              obtain ⟨LO, hLO⟩ : ∃ LO, low ((D.extract 1 D.size).extract i (i + 1)) = LO := ⟨_, rfl⟩
              rw [hLO] at hlo hlz hdg
              have hlzI : (0 : Int) < (LO.size : Int) := by omega
              have hgb := get_bt LO
              obtain ⟨dv, hdv⟩ : ∃ dv, digV (bt (D.extract 1 D.size) i) = dv := ⟨_, rfl⟩
              rw [hdv] at hdg hv0
              have HDV := Lib.hid hdv
              by_cases hd : dv < 16
              · have hstep : numF (D.extract 1 D.size) 16 n 0 0 = numF (D.extract 1 D.size) 16 (n - (i + 1)) (i + 1) (x * 16 + dv) := by
                  rw [hp, show n - i = (n - (i + 1)) + 1 by omega, numF_some (by rw [hdv]; exact hd), hdv]
                have h16 : dv < 16 := by omega
                rw [if_pos h16] at hdg
                have hpw : 16 ^ (i + 1) = 16 ^ i * 16 := Nat.pow_succ _ _
                have hpm : 16 ^ (i + 1) ≤ 16 ^ 6 := Nat.pow_le_pow_right (by decide) (by omega)
                have hpe : 16 ^ 6 = 16777216 := by decide
                have hx2 : x * 16 + dv < ((16 ^ (i + 1) : Nat) : Int) := by rw [hpw]; omega
                have hx3 : 0 ≤ x * 16 + dv := by omega
                have hxm : x * 16 + dv < 16777216 := by omega
                have w1 : IntKind.i32.wrap dv = dv := by rw [IntKind.wrap_i32]; omega
                have w2 : IntKind.i32.wrap (x * 16) = x * 16 := by rw [IntKind.wrap_i32]; omega
                have w3 : IntKind.i32.wrap (x * 16 + dv) = x * 16 + dv := by rw [IntKind.wrap_i32]; omega
                have hdn : ¬ dv < 0 := by omega
                have hdb : ¬ 16 ≤ dv := by omega
                have HST := Lib.hid hstep; have HX2 := Lib.hid hx2; have HX3 := Lib.hid hx3
                clear hstep hpw hpm hpe hx2 hx3 hxm hp hg hx0 hx1 hBr hlt hid hdv hlz hLO h16
                go_wp2_with fail
                refine hlo.mono ?_
                rintro e w2' ⟨rfl, hB2⟩
                have HB2 := Lib.hid (HBR.out.trans (hB2.mono HBR.out.size))
                clear hlo hB2
                go_wp2_with fail
                refine (hdg w2').mono ?_
                rintro e w' ⟨rfl, rfl⟩
                go_wp2_with fail
                go_roundg (n - i)
                case rel => exact ⟨i + 1, x * 16 + dv, by simp, by simp, by have := HG.out; have := HLT.out; omega, HLT.out, HST.out, HX3.out, HX2.out, HB2.out⟩
                case measure => have := HG.out; have := HLT.out; omega
              · have hres : numF (D.extract 1 D.size) 16 n 0 0 = none := by
                  rw [hp, show n - i = (n - (i + 1)) + 1 by omega, numF_none (by rw [hdv]; exact hd)]
                have hr : refT t = none := by rw [HRT.out, HNB.out, hres]
                have HR := Lib.hid hr
                have hcase : ((if dv < 16 then dv else -1) = -1) ∨ ((if dv < 16 then dv else -1) = dv ∧ 16 ≤ dv ∧ dv < 16) := by
                  by_cases h16 : dv < 16
                  · exact .inr ⟨if_pos h16, by omega, h16⟩
                  · exact .inl (if_neg h16)
                clear hres hr hp hg hx0 hx1 hBr hlt hid hdv hlz hLO
                rcases hcase with hcc | ⟨hcc, hcb, hc16⟩
                all_goals
                  rw [hcc] at hdg
                  first
                    | have w1 : IntKind.i32.wrap dv = dv := by rw [IntKind.wrap_i32]; omega
                    | have w1 : IntKind.i32.wrap (-1) = -1 := by decide
                  have hdn : decide (dv < 0) = false := by simpa using hv0
                  clear hcc
                  go_wp2_with fail
                  refine hlo.mono ?_
                  rintro e w2' ⟨rfl, hB2⟩
                  have HB2 := Lib.hid (HBR.out.trans (hB2.mono HBR.out.size))
                  clear hlo hB2
                  go_wp2_with fail
                  refine (hdg w2').mono ?_
                  rintro e w' ⟨rfl, rfl⟩
                  go_wp2_with fail
                  refine bodyPost_ret (v := .tuple #[.int .i32 0, .int .i64 0, .bool false]) (by simp [results, Tryz.results100, go_sem]) rfl ?_
                  unfold RefEnd
                  rw [HR.out]
                  exact ⟨⟨_, _, rfl⟩, HB2.out⟩
            · have hiI : ¬ (i : Int) < n := by omega
              have hres : numF (D.extract 1 D.size) 16 n 0 0 = some x := by
                rw [hp, show n - i = 0 by omega]
                rfl
              have hch := char_any x wr
              cases hrc : rChar x with
              | true =>
                rw [hrc] at hch
                have hr : refT t = some (x, k + 1) := by rw [HRT.out, HNB.out, hres]; simp only; rw [if_pos hrc]
                have HR := Lib.hid hr
                clear hres hr hp hg hlt hrc
                go_wp2_with fail
                refine hch.mono ?_
                rintro e w' ⟨rfl, rfl⟩
                go_wp2_with fail
                refine bodyPost_ret (v := .tuple #[.int .i32 x, .int .i64 ((k + 1 : Nat) : Int), .bool true]) (by simp [results, Tryz.results100, go_sem]) rfl ?_
                unfold RefEnd
                rw [HR.out]
                exact ⟨rfl, HBR.out⟩
              | false =>
                rw [hrc] at hch
                have hr : refT t = none := by rw [HRT.out, HNB.out, hres]; simp only; rw [if_neg (by rw [hrc]; simp)]
                have HR := Lib.hid hr
                clear hres hr hp hg hlt hrc
                go_wp2_with fail
                refine hch.mono ?_
                rintro e w' ⟨rfl, rfl⟩
                go_wp2_with fail
                refine bodyPost_ret (v := .tuple #[.int .i32 x, .int .i64 ((k + 1 : Nat) : Int), .bool false]) (by simp [results, Tryz.results100, go_sem]) rfl ?_
                unfold RefEnd
                rw [HR.out]
                exact ⟨⟨_, _, rfl⟩, HBR.out⟩
    · rw [if_neg hx120, decide_eq_false hx120] at hcx
      go_enter Tryz.func100, Tryz.ntmps100
      go_wp2_with fail
      refine hc.mono ?_
      rintro e w1 ⟨⟨b, rfl⟩, hB1⟩
      go_wp2_with fail
      refine (hcp w1).mono ?_
      rintro e w' ⟨rfl, rfl⟩
      go_wp2_with fail
      refine (hcx w1).mono ?_
      rintro e w' ⟨rfl, rfl⟩
      clear hc hcp hcx e1 e2 e3 e4 e5
      obtain ⟨n, hn⟩ : ∃ n, (D).size = n := ⟨_, rfl⟩
      have hnum : numX D = numB (D) 10 7 := by unfold numX; rw [if_neg hx120]
      by_cases h0 : n = 0
      · have hr : refT t = none := by rw [HRT.out, hnum]; unfold numB; rw [if_pos (.inl (by rw [hn]; exact h0))]
        have HR := Lib.hid hr
        have hnil : ((D).toList == ([] : List UInt8)) = true := tl_yes (tl_size (by rw [hn]; exact h0))
        clear hr hnum h0
        go_wp2_with fail
        refine bodyPost_ret (v := .tuple #[.int .i32 0, .int .i64 0, .bool false]) (by simp [results, Tryz.results100, go_sem]) rfl ?_
        unfold RefEnd
        rw [HR.out]
        exact ⟨⟨_, _, rfl⟩, hB1⟩
      · have hnil : ((D).toList == ([] : List UInt8)) = false := bytes_ne (by rw [hn]; exact h0)
        by_cases hm : 7 < n
        · have hr : refT t = none := by rw [HRT.out, hnum]; unfold numB; rw [if_pos (.inr (by rw [hn]; exact hm))]
          have HR := Lib.hid hr
          have hmI : (7 : Int) < ((D).size : Int) := by rw [hn]; omega
          clear hr hnum h0 hm
          go_wp2_with fail
          refine bodyPost_ret (v := .tuple #[.int .i32 0, .int .i64 0, .bool false]) (by simp [results, Tryz.results100, go_sem]) rfl ?_
          unfold RefEnd
          rw [HR.out]
          exact ⟨⟨_, _, rfl⟩, hB1⟩
        · have hmI : ¬ (7 : Int) < ((D).size : Int) := by rw [hn]; omega
          have hnb : numB (D) 10 7 = match numF (D) 10 n 0 0 with | none => none | some x => if rChar x = true then some x else none := by
            unfold numB
            rw [if_neg (by rw [hn]; omega), hn]
            generalize numF (D) 10 n 0 0 = z
            cases z <;> rfl
          have HNB := Lib.hid (hnum.trans hnb)
          have HN := Lib.hid hn
          have hm' : n ≤ 7 := by omega
          have HM := Lib.hid hm'
          clear hnum hnb h0 hm hm'
          go_wp2_with fail
          try rw [HN.out]
          go_loopg [14, 69] (n + 1) (fun f s14 s69 wx => ∃ (i : Nat) (x : Int), s14 = .int .i32 x ∧ s69 = .int .i64 (i : Int) ∧ f + i = n + 1 ∧ i ≤ n ∧ numF (D) 10 n 0 0 = numF (D) 10 (n - i) i x ∧ 0 ≤ x ∧ x < ((10 ^ i : Nat) : Int) ∧ Below w.heap.size w wx)
          case atStart => exact ⟨0, 0, rfl, rfl, rfl, Nat.zero_le _, rfl, Int.le_refl _, by decide, hB1⟩
          case round =>
            obtain ⟨i, x, rfl, rfl, hg, hi, hp, hx0, hx1, hBr⟩ := hrel
            have HG := Lib.hid hg; have HP := Lib.hid hp; have HBR := Lib.hid hBr; have HX1 := Lib.hid hx1; have HX0 := Lib.hid hx0
            have hi0 : (0 : Int) ≤ i := by omega
            have hnm := HM.out
            by_cases hlt : i < n
            · have hiI : (i : Int) < n := by omega
              have f1 : IntKind.i64.wrap ((i : Int) + 1) = ((i + 1 : Nat) : Int) := by rw [IntWalk.i64_in _ (by omega)]; omega
              have hid : i < (D).size := by rw [HN.out]; exact hlt
              have hsl : (i : Int) ≤ ((i + 1 : Nat) : Int) := by omega
              have hsl2 : ((i + 1 : Nat) : Int) ≤ ((D).size : Int) := by omega
              have hi10 : (0 : Int) ≤ ((i + 1 : Nat) : Int) := by omega
              have hlo := lower_any ((D).extract i (i + 1)) wr (by rw [ByteArray.size_extract]; omega)
              have hlz : (low ((D).extract i (i + 1))).size = 1 := by rw [lowx_size, ByteArray.size_extract]; omega
              have hdg := fun W => digit_one (D) i hid W
              have hv0 := digV_nonneg (bt (D) i)
              have HLT := Lib.hid hlt
              obtain ⟨LO, hLO⟩ : ∃ LO, low ((D).extract i (i + 1)) = LO := ⟨_, rfl⟩
              rw [hLO] at hlo hlz hdg
              have hlzI : (0 : Int) < (LO.size : Int) := by omega
              have hgb := get_bt LO
              obtain ⟨dv, hdv⟩ : ∃ dv, digV (bt (D) i) = dv := ⟨_, rfl⟩
              rw [hdv] at hdg hv0
              have HDV := Lib.hid hdv
              by_cases hd : dv < 10
              · have hstep : numF (D) 10 n 0 0 = numF (D) 10 (n - (i + 1)) (i + 1) (x * 10 + dv) := by
                  rw [hp, show n - i = (n - (i + 1)) + 1 by omega, numF_some (by rw [hdv]; exact hd), hdv]
                have h16 : dv < 16 := by omega
                rw [if_pos h16] at hdg
                have hpw : 10 ^ (i + 1) = 10 ^ i * 10 := Nat.pow_succ _ _
                have hpm : 10 ^ (i + 1) ≤ 10 ^ 7 := Nat.pow_le_pow_right (by decide) (by omega)
                have hpe : 10 ^ 7 = 10000000 := by decide
                have hx2 : x * 10 + dv < ((10 ^ (i + 1) : Nat) : Int) := by rw [hpw]; omega
                have hx3 : 0 ≤ x * 10 + dv := by omega
                have hxm : x * 10 + dv < 10000000 := by omega
                have w1 : IntKind.i32.wrap dv = dv := by rw [IntKind.wrap_i32]; omega
                have w2 : IntKind.i32.wrap (x * 10) = x * 10 := by rw [IntKind.wrap_i32]; omega
                have w3 : IntKind.i32.wrap (x * 10 + dv) = x * 10 + dv := by rw [IntKind.wrap_i32]; omega
                have hdn : ¬ dv < 0 := by omega
                have hdb : ¬ 10 ≤ dv := by omega
                have HST := Lib.hid hstep; have HX2 := Lib.hid hx2; have HX3 := Lib.hid hx3
                clear hstep hpw hpm hpe hx2 hx3 hxm hp hg hx0 hx1 hBr hlt hid hdv hlz hLO h16
                go_wp2_with fail
                refine hlo.mono ?_
                rintro e w2' ⟨rfl, hB2⟩
                have HB2 := Lib.hid (HBR.out.trans (hB2.mono HBR.out.size))
                clear hlo hB2
                go_wp2_with fail
                refine (hdg w2').mono ?_
                rintro e w' ⟨rfl, rfl⟩
                go_wp2_with fail
                go_roundg (n - i)
                case rel => exact ⟨i + 1, x * 10 + dv, by simp, by simp, by have := HG.out; have := HLT.out; omega, HLT.out, HST.out, HX3.out, HX2.out, HB2.out⟩
                case measure => have := HG.out; have := HLT.out; omega
              · have hres : numF (D) 10 n 0 0 = none := by
                  rw [hp, show n - i = (n - (i + 1)) + 1 by omega, numF_none (by rw [hdv]; exact hd)]
                have hr : refT t = none := by rw [HRT.out, HNB.out, hres]
                have HR := Lib.hid hr
                have hcase : ((if dv < 16 then dv else -1) = -1) ∨ ((if dv < 16 then dv else -1) = dv ∧ 10 ≤ dv ∧ dv < 16) := by
                  by_cases h16 : dv < 16
                  · exact .inr ⟨if_pos h16, by omega, h16⟩
                  · exact .inl (if_neg h16)
                clear hres hr hp hg hx0 hx1 hBr hlt hid hdv hlz hLO
                rcases hcase with hcc | ⟨hcc, hcb, hc16⟩
                all_goals
                  rw [hcc] at hdg
                  first
                    | have w1 : IntKind.i32.wrap dv = dv := by rw [IntKind.wrap_i32]; omega
                    | have w1 : IntKind.i32.wrap (-1) = -1 := by decide
                  have hdn : decide (dv < 0) = false := by simpa using hv0
                  clear hcc
                  go_wp2_with fail
                  refine hlo.mono ?_
                  rintro e w2' ⟨rfl, hB2⟩
                  have HB2 := Lib.hid (HBR.out.trans (hB2.mono HBR.out.size))
                  clear hlo hB2
                  go_wp2_with fail
                  refine (hdg w2').mono ?_
                  rintro e w' ⟨rfl, rfl⟩
                  go_wp2_with fail
                  refine bodyPost_ret (v := .tuple #[.int .i32 0, .int .i64 0, .bool false]) (by simp [results, Tryz.results100, go_sem]) rfl ?_
                  unfold RefEnd
                  rw [HR.out]
                  exact ⟨⟨_, _, rfl⟩, HB2.out⟩
            · have hiI : ¬ (i : Int) < n := by omega
              have hres : numF (D) 10 n 0 0 = some x := by
                rw [hp, show n - i = 0 by omega]
                rfl
              have hch := char_any x wr
              cases hrc : rChar x with
              | true =>
                rw [hrc] at hch
                have hr : refT t = some (x, k + 1) := by rw [HRT.out, HNB.out, hres]; simp only; rw [if_pos hrc]
                have HR := Lib.hid hr
                clear hres hr hp hg hlt hrc
                go_wp2_with fail
                refine hch.mono ?_
                rintro e w' ⟨rfl, rfl⟩
                go_wp2_with fail
                refine bodyPost_ret (v := .tuple #[.int .i32 x, .int .i64 ((k + 1 : Nat) : Int), .bool true]) (by simp [results, Tryz.results100, go_sem]) rfl ?_
                unfold RefEnd
                rw [HR.out]
                exact ⟨rfl, HBR.out⟩
              | false =>
                rw [hrc] at hch
                have hr : refT t = none := by rw [HRT.out, HNB.out, hres]; simp only; rw [if_neg (by rw [hrc]; simp)]
                have HR := Lib.hid hr
                clear hres hr hp hg hlt hrc
                go_wp2_with fail
                refine hch.mono ?_
                rintro e w' ⟨rfl, rfl⟩
                go_wp2_with fail
                refine bodyPost_ret (v := .tuple #[.int .i32 x, .int .i64 ((k + 1 : Nat) : Int), .bool false]) (by simp [results, Tryz.results100, go_sem]) rfl ?_
                unfold RefEnd
                rw [HR.out]
                exact ⟨⟨_, _, rfl⟩, HBR.out⟩
  · rw [if_neg h35, decide_eq_false h35] at hcp
    rw [if_neg (fun e => h35 (hb0.2 e))] at hrt
    have HR := Lib.hid hrt
    clear hrt her hb0 h35
    go_enter Tryz.func100, Tryz.ntmps100
    go_wp2_with fail
    refine hc.mono ?_
    rintro e w1 ⟨⟨b, rfl⟩, hB1⟩
    go_wp2_with fail
    refine (hcp w1).mono ?_
    rintro e w' ⟨rfl, rfl⟩
    go_wp2_with fail
    refine bodyPost_ret (v := .tuple #[.int .i32 0, .int .i64 0, .bool false]) (by simp [results, Tryz.results100, go_sem]) rfl ?_
    unfold RefEnd
    rw [HR.out]
    exact ⟨⟨_, _, rfl⟩, hB1⟩
/-- What a reference is. -/
theorem reference_any (t : ByteArray) (w : World) (hG : Gx w) (h1 : 1 ≤ t.size) (hz : t.size ≤ 4000000000) :
    Calls Tryz.prog 100 #[.string t] w fun e w' => RefEnd t w e w' := by
  cases hs : semi t 1 with
  | none => exact reference_five t w hG h1 hz (.inl hs)
  | some k =>
    cases hf : fiveX (t.extract 1 k) with
    | some r => exact reference_five t w hG h1 hz (.inr ⟨k, r, hs, hf⟩)
    | none => exact reference_num t w hG h1 hz k hs hf
end

section
open Go.RowKit Go.PlainAid

theorem rest_size (s : ByteArray) (p : Nat) (h : p ≤ s.size) : (s.extract p s.size).size = s.size - p := by rw [ByteArray.size_extract]; omega
theorem refX_ok {s : ByteArray} {p : Nat} {r : Int × Nat} (h : refX s p = some r) (hp : p ≤ s.size) : okRune r.1 ∧ p + r.2 ≤ s.size ∧ 1 ≤ r.2 := by
  unfold refX refT at h
  cases hs : semi (s.extract p s.size) 1 with
  | none => rw [hs] at h; cases h
  | some k =>
    rw [hs] at h
    simp only at h
    obtain ⟨h1, h2, _⟩ := semi_in hs
    rw [rest_size s p hp] at h2
    cases hf : fiveX ((s.extract p s.size).extract 1 k) with
    | some x =>
      rw [hf] at h
      simp only at h
      injection h with h
      subst h
      refine ⟨?_, by simp only; omega, by simp only; omega⟩
      rcases five_cases hf with ⟨_, rfl⟩ | ⟨_, rfl⟩ | ⟨_, rfl⟩ | ⟨_, rfl⟩ | ⟨_, rfl⟩ <;> (unfold okRune; simp only; omega)
    | none =>
      rw [hf] at h
      simp only at h
      split at h
      · cases hn : numX ((s.extract p s.size).extract 2 k) with
        | none => rw [hn] at h; cases h
        | some x =>
          rw [hn] at h
          simp only at h
          injection h with h
          subst h
          refine ⟨?_, by simp only; omega, by simp only; omega⟩
          have key : ∀ d b m, numB d b m = some x → rChar x = true := fun d b m hb => by
            unfold numB at hb
            split at hb
            · cases hb
            · cases hq : numF d b d.size 0 0 with
              | none => rw [hq] at hb; cases hb
              | some y =>
                rw [hq] at hb
                simp only at hb
                split at hb
                · injection hb with hb
                  subst hb
                  assumption
                · cases hb
          unfold numX at hn
          split at hn
          · exact rChar_ok (key _ _ _ hn)
          · exact rChar_ok (key _ _ _ hn)
      · cases h
/-- What rune comes to: Post says what the builder's write has done. -/
def RuneEnd (Post : List UInt8 → World → World → Prop) (rb : Nat) (s : ByteArray) (at_ : Nat) (w : World) (en : Ending) (w' : World) : Prop :=
  match pieceX s at_ with
  | .bad e a => en = Died e a ∧ Below w.heap.size w w'
  | .ok q b => en = .returned (.tuple #[]) ∧ ∃ W w1, Below w.heap.size w W ∧ Post b.data.toList W w1 ∧ w' = w1.setCell ⟨rb, 1, none⟩ (.int .i64 (q : Int))

set_option maxRecDepth 100000 in
set_option maxHeartbeats 8000000 in
theorem rune_gen {rb : Nat} {s : ByteArray} {at_ : Nat} {cs : Array Value} {w : World} (bp : Value) (Post : List UInt8 → World → World → Prop) (h : Rdr rb s at_ cs w) (ha : at_ ≤ s.size) (hz : s.size ≤ 4000000000) (hG : Gx w)
    (hWS : ∀ (b : ByteArray) W, b.size ≤ s.size → Below w.heap.size w W → Calls Tryz.prog 39 #[bp, .string b] W fun e w' => (∃ a, e = .returned a) ∧ Post b.data.toList W w')
    (hWR : ∀ (r : Int) W, okRune r → Below w.heap.size w W → Calls Tryz.prog 101 #[bp, .int .i32 r] W fun e w' => (∃ a, e = .returned a) ∧ Post (Lib.encodeRune r) W w')
    (hRd : ∀ l W W', Post l W W' → ∃ cs', Rdr rb s at_ cs' W') :
    Calls Tryz.prog 74 #[.pointer (some ⟨rb, 0, none⟩), bp] w fun en w' => RuneEnd Post rb s at_ w en w' := by
  have hn := next_any h ha
  have HH := Lib.hid h
  have ha0 : (0 : Int) ≤ at_ := by omega
  have has : (at_ : Int) ≤ s.size := by omega
  have hzs : (s.size : Int) ≤ 4000000000 := by omega
  by_cases h38 : bt s at_ = 38
  · have hlt : at_ < s.size := by
      by_cases hp : at_ < s.size
      · exact hp
      · rw [bt_end s (by omega)] at h38; omega
    have hpx : pieceX s at_ = match refX s at_ with | none => .bad 141 at_ | some r => .ok (at_ + r.2) (encB r.1) := by
      unfold pieceX
      rw [if_pos h38]
      cases refX s at_ with
      | none => rfl
      | some r => rfl
    have hrz := rest_size s at_ ha
    rw [h38] at hn
    cases hrx : refX s at_ with
    | none =>
      rw [hrx] at hpx
      simp only at hpx
      have hrT : refT (s.extract at_ s.size) = none := hrx
      have HPX := Lib.hid hpx
      clear hpx hrx h h38
      go_enter Tryz.func74, Tryz.ntmps74
      go_wp2_with fail
      refine hn.mono ?_
      rintro e w1 ⟨rfl, hB1⟩
      have hB1d := hB1.drew
      have hR1d := HH.out.on hB1d
      have hSd : w1.drew.cell? ⟨rb, 0, none⟩ = some (Value.string s) ∧ w1.drew.cell? ⟨rb, 1, none⟩ = some (Value.int .i64 (at_ : Int)) := ⟨hR1d.cell0, hR1d.cell1⟩
      have href : ∀ W, Below w.heap.size w W → Calls Tryz.prog 100 #[.string (s.extract at_ s.size)] W fun e w' => (∃ a b, e = .returned (.tuple #[.int .i32 a, .int .i64 b, .bool false])) ∧ Below W.heap.size W w' := fun W hB =>
        (reference_any _ W (hG.on hB) (by omega) (by omega)).mono fun e w' hE => by unfold RefEnd at hE; rw [hrT] at hE; exact hE
      go_upto_region 1 with fail
      refine wp_region_held_drew (S := fun w' => w'.cell? ⟨rb, 0, none⟩ = some (Value.string s) ∧ w'.cell? ⟨rb, 1, none⟩ = some (Value.int .i64 (at_ : Int))) (by kernel_rfl) (hSd) (fun hHeld => ?_)
      refine wpAnyH_take (i := 0) (v := ?_) rfl (by kernel_rfl) (by kernel_rfl) (by kernel_rfl) (fun _ _ _ h => h) (Or.inl ⟨by rfl, ?_⟩) hHeld ?_
      rotate_left
      · intro w hSw; (try dsimp only at hSw); first | (go_simp; done) | (go_simp; with_reducible rfl)
      try simp only [Act.put, List.setIfInBounds_toArray, List.set_cons_zero, List.set_cons_succ, List.getElem_toArray, List.getElem_cons_zero]
      refine wpAnyH_take (i := 1) (v := ?_) rfl (by kernel_rfl) (by kernel_rfl) (by kernel_rfl) (fun _ _ _ h => h) (Or.inl ⟨by rfl, ?_⟩) hHeld ?_
      rotate_left
      · intro w hSw; (try dsimp only at hSw); first | (go_simp; done) | (go_simp; with_reducible rfl)
      try simp only [Act.put, List.setIfInBounds_toArray, List.set_cons_zero, List.set_cons_succ, List.getElem_toArray, List.getElem_cons_zero, List.getElem_cons_succ]
      refine wpAnyH_take (i := 2) (v := ?_) rfl (by kernel_rfl) (by kernel_rfl) (by kernel_rfl) (fun _ _ _ h => h) (Or.inl ⟨by rfl, ?_⟩) hHeld ?_
      rotate_left
      · intro w hSw; (try dsimp only at hSw); first | (go_simp; done) | (go_simp; with_reducible rfl)
      try simp only [Act.put, List.setIfInBounds_toArray, List.set_cons_zero, List.set_cons_succ, List.getElem_toArray, List.getElem_cons_zero, List.getElem_cons_succ]
      refine wpAnyH_take (i := 3) (v := ?_) rfl (by kernel_rfl) (by kernel_rfl) (by kernel_rfl) (fun _ _ _ h => h) (Or.inl ⟨by rfl, ?_⟩) hHeld ?_
      rotate_left
      · intro w hSw; (try dsimp only at hSw); first | (go_simp; done) | (go_simp; with_reducible rfl)
      try simp only [Act.put, List.setIfInBounds_toArray, List.set_cons_zero, List.set_cons_succ, List.getElem_toArray, List.getElem_cons_zero, List.getElem_cons_succ]
      refine wpAnyH_take (i := 4) (v := ?_) rfl (by kernel_rfl) (by kernel_rfl) (by kernel_rfl) (fun _ _ _ h => h) (Or.inl ⟨by rfl, ?_⟩) hHeld ?_
      rotate_left
      · intro w hSw; (try dsimp only at hSw); first | (go_simp; done) | (go_simp; with_reducible rfl)
      try simp only [Act.put, List.setIfInBounds_toArray, List.set_cons_zero, List.set_cons_succ, List.getElem_toArray, List.getElem_cons_zero, List.getElem_cons_succ]
      refine wpAnyH_take (i := 5) (v := ?_) rfl (by kernel_rfl) (by kernel_rfl) (by kernel_rfl) (fun _ _ _ h => h) (Or.inl ⟨by rfl, ?_⟩) hHeld ?_
      rotate_left
      · intro w hSw; (try dsimp only at hSw); first | (go_simp; done) | (go_simp; with_reducible rfl)
      try simp only [Act.put, List.setIfInBounds_toArray, List.set_cons_zero, List.set_cons_succ, List.getElem_toArray, List.getElem_cons_zero, List.getElem_cons_succ]
      refine wpAnyH_take (i := 6) (v := ?_) rfl (by kernel_rfl) (by kernel_rfl) (by kernel_rfl) (fun _ _ _ h => h) (Or.inl ⟨by rfl, ?_⟩) hHeld ?_
      rotate_left
      · intro w hSw; (try dsimp only at hSw); first | (go_simp; done) | (go_simp; with_reducible rfl)
      try simp only [Act.put, List.setIfInBounds_toArray, List.set_cons_zero, List.set_cons_succ, List.getElem_toArray, List.getElem_cons_zero, List.getElem_cons_succ]
      refine wpAnyH_take (i := 7) (v := ?_) rfl (by kernel_rfl) (by kernel_rfl) (by kernel_rfl) (fun _ _ _ h => h) (Or.inl ⟨by rfl, ?_⟩) hHeld ?_
      rotate_left
      · intro w hSw; (try dsimp only at hSw); first | (go_simp; done) | (go_simp; with_reducible rfl)
      try simp only [Act.put, List.setIfInBounds_toArray, List.set_cons_zero, List.set_cons_succ, List.getElem_toArray, List.getElem_cons_zero, List.getElem_cons_succ]
      refine wpAnyH_take (i := 8) (v := ?_) rfl (by kernel_rfl) (by kernel_rfl) (by kernel_rfl) (fun _ _ _ h => h) (Or.inl ⟨by rfl, ?_⟩) hHeld ?_
      rotate_left
      · intro w hSw; (try dsimp only at hSw); first | (go_simp; done) | (go_simp; with_reducible rfl)
      try simp only [Act.put, List.setIfInBounds_toArray, List.set_cons_zero, List.set_cons_succ, List.getElem_toArray, List.getElem_cons_zero, List.getElem_cons_succ]
      refine wpAnyH_ready (rs := [9]) (by kernel_rfl) (by simp) ?_
      refine AllReadyH.cons rfl (fun K hK => ?_) AllReadyH.nil
      go_simp
      go_wp2_with (go_at_call 100; refine (href _ hB1d).mono ?_; rintro e wy ⟨hre, hBy⟩; obtain ⟨ra, rb2, rfl⟩ := hre; have hRy := hR1d.on hBy; have hSy : wy.cell? ⟨rb, 0, none⟩ = some (Value.string s) ∧ wy.cell? ⟨rb, 1, none⟩ = some (Value.int .i64 (at_ : Int)) := ⟨hRy.cell0, hRy.cell1⟩)
      refine hK.out _ _ (hSy) (fun hHeld => ?_)
      clear hK K
      refine wpAnyH_take (i := 10) (v := ?_) rfl (by kernel_rfl) (by kernel_rfl) (by kernel_rfl) (fun _ _ _ h => h) (Or.inl ⟨by rfl, ?_⟩) hHeld ?_
      rotate_left
      · intro w hSw; (try dsimp only at hSw); first | (go_simp; done) | (go_simp; with_reducible rfl)
      try simp only [Act.put, List.setIfInBounds_toArray, List.set_cons_zero, List.set_cons_succ, List.getElem_toArray, List.getElem_cons_zero, List.getElem_cons_succ]
      refine wpAnyH_take (i := 11) (v := ?_) rfl (by kernel_rfl) (by kernel_rfl) (by kernel_rfl) (fun _ _ _ h => h) (Or.inl ⟨by rfl, ?_⟩) hHeld ?_
      rotate_left
      · intro w hSw; (try dsimp only at hSw); first | (go_simp; done) | (go_simp; with_reducible rfl)
      try simp only [Act.put, List.setIfInBounds_toArray, List.set_cons_zero, List.set_cons_succ, List.getElem_toArray, List.getElem_cons_zero, List.getElem_cons_succ]
      refine wpAnyH_take (i := 12) (v := ?_) rfl (by kernel_rfl) (by kernel_rfl) (by kernel_rfl) (fun _ _ _ h => h) (Or.inl ⟨by rfl, ?_⟩) hHeld ?_
      rotate_left
      · intro w hSw; (try dsimp only at hSw); first | (go_simp; done) | (go_simp; with_reducible rfl)
      try simp only [Act.put, List.setIfInBounds_toArray, List.set_cons_zero, List.set_cons_succ, List.getElem_toArray, List.getElem_cons_zero, List.getElem_cons_succ]
      refine wpAnyH_take (i := 13) (v := ?_) rfl (by kernel_rfl) (by kernel_rfl) (by kernel_rfl) (fun _ _ _ h => h) (Or.inl ⟨by rfl, ?_⟩) hHeld ?_
      rotate_left
      · intro w hSw; (try dsimp only at hSw); first | (go_simp; done) | (go_simp; with_reducible rfl)
      try simp only [Act.put, List.setIfInBounds_toArray, List.set_cons_zero, List.set_cons_succ, List.getElem_toArray, List.getElem_cons_zero, List.getElem_cons_succ]
      refine wpAnyH_take (i := 14) (v := ?_) rfl (by kernel_rfl) (by kernel_rfl) (by kernel_rfl) (fun _ _ _ h => h) (Or.inl ⟨by rfl, ?_⟩) hHeld ?_
      rotate_left
      · intro w hSw; (try dsimp only at hSw); first | (go_simp; done) | (go_simp; with_reducible rfl)
      try simp only [Act.put, List.setIfInBounds_toArray, List.set_cons_zero, List.set_cons_succ, List.getElem_toArray, List.getElem_cons_zero, List.getElem_cons_succ]
      refine wpAnyH_take (i := 15) (v := ?_) rfl (by kernel_rfl) (by kernel_rfl) (by kernel_rfl) (fun _ _ _ h => h) (Or.inl ⟨by rfl, ?_⟩) hHeld ?_
      rotate_left
      · intro w hSw; (try dsimp only at hSw); first | (go_simp; done) | (go_simp; with_reducible rfl)
      try simp only [Act.put, List.setIfInBounds_toArray, List.set_cons_zero, List.set_cons_succ, List.getElem_toArray, List.getElem_cons_zero, List.getElem_cons_succ]
      refine wpAnyH_take (i := 16) (v := ?_) rfl (by kernel_rfl) (by kernel_rfl) (by kernel_rfl) (fun _ _ _ h => h) (Or.inl ⟨by rfl, ?_⟩) hHeld ?_
      rotate_left
      · intro w hSw; (try dsimp only at hSw); first | (go_simp; done) | (go_simp; with_reducible rfl)
      try simp only [Act.put, List.setIfInBounds_toArray, List.set_cons_zero, List.set_cons_succ, List.getElem_toArray, List.getElem_cons_zero, List.getElem_cons_succ]
      refine wpAnyH_done (by kernel_rfl) ?_ _
      have hBe := hB1d.trans (hBy.mono hB1d.size)
      have d1 := hRy.cell1
      have hf := fail_any (.pointer (some ⟨rb, 0, none⟩)) 141 (at_ : Int) wy
      clear hHeld hSy hSd hRy hR1d href hn hBy
      go_wp2_with fail
      refine hf.mono ?_
      rintro e w' ⟨rfl, rfl⟩
      go_wp2_with fail
      refine ⟨rfl, ?_⟩
      unfold RuneEnd
      rw [HPX.out]
      exact ⟨rfl, hBe⟩
    | some r =>
      rw [hrx] at hpx
      simp only at hpx
      obtain ⟨hok, hin, hge⟩ := refX_ok hrx ha
      have hrT : refT (s.extract at_ s.size) = some r := hrx
      obtain ⟨rx, rl⟩ := r
      simp only at hok hin hge hpx
      have f1 : IntKind.i64.wrap ((at_ : Int) + (rl : Int)) = ((at_ + rl : Nat) : Int) := by rw [IntWalk.i64_in _ (by omega)]; omega
      have HPX := Lib.hid hpx
      clear hpx hrx h h38
      go_enter Tryz.func74, Tryz.ntmps74
      go_wp2_with fail
      refine hn.mono ?_
      rintro e w1 ⟨rfl, hB1⟩
      have hB1d := hB1.drew
      have hR1d := HH.out.on hB1d
      have hSd : w1.drew.cell? ⟨rb, 0, none⟩ = some (Value.string s) ∧ w1.drew.cell? ⟨rb, 1, none⟩ = some (Value.int .i64 (at_ : Int)) := ⟨hR1d.cell0, hR1d.cell1⟩
      have href : ∀ W, Below w.heap.size w W → Calls Tryz.prog 100 #[.string (s.extract at_ s.size)] W fun e w' => e = .returned (.tuple #[.int .i32 rx, .int .i64 (rl : Int), .bool true]) ∧ Below W.heap.size W w' := fun W hB =>
        (reference_any _ W (hG.on hB) (by omega) (by omega)).mono fun e w' hE => by unfold RefEnd at hE; rw [hrT] at hE; exact hE
      go_upto_region 1 with fail
      refine wp_region_held_drew (S := fun w' => w'.cell? ⟨rb, 0, none⟩ = some (Value.string s) ∧ w'.cell? ⟨rb, 1, none⟩ = some (Value.int .i64 (at_ : Int))) (by kernel_rfl) (hSd) (fun hHeld => ?_)
      refine wpAnyH_take (i := 0) (v := ?_) rfl (by kernel_rfl) (by kernel_rfl) (by kernel_rfl) (fun _ _ _ h => h) (Or.inl ⟨by rfl, ?_⟩) hHeld ?_
      rotate_left
      · intro w hSw; (try dsimp only at hSw); first | (go_simp; done) | (go_simp; with_reducible rfl)
      try simp only [Act.put, List.setIfInBounds_toArray, List.set_cons_zero, List.set_cons_succ, List.getElem_toArray, List.getElem_cons_zero]
      refine wpAnyH_take (i := 1) (v := ?_) rfl (by kernel_rfl) (by kernel_rfl) (by kernel_rfl) (fun _ _ _ h => h) (Or.inl ⟨by rfl, ?_⟩) hHeld ?_
      rotate_left
      · intro w hSw; (try dsimp only at hSw); first | (go_simp; done) | (go_simp; with_reducible rfl)
      try simp only [Act.put, List.setIfInBounds_toArray, List.set_cons_zero, List.set_cons_succ, List.getElem_toArray, List.getElem_cons_zero, List.getElem_cons_succ]
      refine wpAnyH_take (i := 2) (v := ?_) rfl (by kernel_rfl) (by kernel_rfl) (by kernel_rfl) (fun _ _ _ h => h) (Or.inl ⟨by rfl, ?_⟩) hHeld ?_
      rotate_left
      · intro w hSw; (try dsimp only at hSw); first | (go_simp; done) | (go_simp; with_reducible rfl)
      try simp only [Act.put, List.setIfInBounds_toArray, List.set_cons_zero, List.set_cons_succ, List.getElem_toArray, List.getElem_cons_zero, List.getElem_cons_succ]
      refine wpAnyH_take (i := 3) (v := ?_) rfl (by kernel_rfl) (by kernel_rfl) (by kernel_rfl) (fun _ _ _ h => h) (Or.inl ⟨by rfl, ?_⟩) hHeld ?_
      rotate_left
      · intro w hSw; (try dsimp only at hSw); first | (go_simp; done) | (go_simp; with_reducible rfl)
      try simp only [Act.put, List.setIfInBounds_toArray, List.set_cons_zero, List.set_cons_succ, List.getElem_toArray, List.getElem_cons_zero, List.getElem_cons_succ]
      refine wpAnyH_take (i := 4) (v := ?_) rfl (by kernel_rfl) (by kernel_rfl) (by kernel_rfl) (fun _ _ _ h => h) (Or.inl ⟨by rfl, ?_⟩) hHeld ?_
      rotate_left
      · intro w hSw; (try dsimp only at hSw); first | (go_simp; done) | (go_simp; with_reducible rfl)
      try simp only [Act.put, List.setIfInBounds_toArray, List.set_cons_zero, List.set_cons_succ, List.getElem_toArray, List.getElem_cons_zero, List.getElem_cons_succ]
      refine wpAnyH_take (i := 5) (v := ?_) rfl (by kernel_rfl) (by kernel_rfl) (by kernel_rfl) (fun _ _ _ h => h) (Or.inl ⟨by rfl, ?_⟩) hHeld ?_
      rotate_left
      · intro w hSw; (try dsimp only at hSw); first | (go_simp; done) | (go_simp; with_reducible rfl)
      try simp only [Act.put, List.setIfInBounds_toArray, List.set_cons_zero, List.set_cons_succ, List.getElem_toArray, List.getElem_cons_zero, List.getElem_cons_succ]
      refine wpAnyH_take (i := 6) (v := ?_) rfl (by kernel_rfl) (by kernel_rfl) (by kernel_rfl) (fun _ _ _ h => h) (Or.inl ⟨by rfl, ?_⟩) hHeld ?_
      rotate_left
      · intro w hSw; (try dsimp only at hSw); first | (go_simp; done) | (go_simp; with_reducible rfl)
      try simp only [Act.put, List.setIfInBounds_toArray, List.set_cons_zero, List.set_cons_succ, List.getElem_toArray, List.getElem_cons_zero, List.getElem_cons_succ]
      refine wpAnyH_take (i := 7) (v := ?_) rfl (by kernel_rfl) (by kernel_rfl) (by kernel_rfl) (fun _ _ _ h => h) (Or.inl ⟨by rfl, ?_⟩) hHeld ?_
      rotate_left
      · intro w hSw; (try dsimp only at hSw); first | (go_simp; done) | (go_simp; with_reducible rfl)
      try simp only [Act.put, List.setIfInBounds_toArray, List.set_cons_zero, List.set_cons_succ, List.getElem_toArray, List.getElem_cons_zero, List.getElem_cons_succ]
      refine wpAnyH_take (i := 8) (v := ?_) rfl (by kernel_rfl) (by kernel_rfl) (by kernel_rfl) (fun _ _ _ h => h) (Or.inl ⟨by rfl, ?_⟩) hHeld ?_
      rotate_left
      · intro w hSw; (try dsimp only at hSw); first | (go_simp; done) | (go_simp; with_reducible rfl)
      try simp only [Act.put, List.setIfInBounds_toArray, List.set_cons_zero, List.set_cons_succ, List.getElem_toArray, List.getElem_cons_zero, List.getElem_cons_succ]
      refine wpAnyH_ready (rs := [9]) (by kernel_rfl) (by simp) ?_
      refine AllReadyH.cons rfl (fun K hK => ?_) AllReadyH.nil
      go_simp
      go_wp2_with (go_at_call 100; refine (href _ hB1d).mono ?_; rintro e wy ⟨hre, hBy⟩; subst hre; have hRy := hR1d.on hBy; have hSy : wy.cell? ⟨rb, 0, none⟩ = some (Value.string s) ∧ wy.cell? ⟨rb, 1, none⟩ = some (Value.int .i64 (at_ : Int)) := ⟨hRy.cell0, hRy.cell1⟩)
      refine hK.out _ _ (hSy) (fun hHeld => ?_)
      clear hK K
      refine wpAnyH_take (i := 10) (v := ?_) rfl (by kernel_rfl) (by kernel_rfl) (by kernel_rfl) (fun _ _ _ h => h) (Or.inl ⟨by rfl, ?_⟩) hHeld ?_
      rotate_left
      · intro w hSw; (try dsimp only at hSw); first | (go_simp; done) | (go_simp; with_reducible rfl)
      try simp only [Act.put, List.setIfInBounds_toArray, List.set_cons_zero, List.set_cons_succ, List.getElem_toArray, List.getElem_cons_zero, List.getElem_cons_succ]
      refine wpAnyH_take (i := 11) (v := ?_) rfl (by kernel_rfl) (by kernel_rfl) (by kernel_rfl) (fun _ _ _ h => h) (Or.inl ⟨by rfl, ?_⟩) hHeld ?_
      rotate_left
      · intro w hSw; (try dsimp only at hSw); first | (go_simp; done) | (go_simp; with_reducible rfl)
      try simp only [Act.put, List.setIfInBounds_toArray, List.set_cons_zero, List.set_cons_succ, List.getElem_toArray, List.getElem_cons_zero, List.getElem_cons_succ]
      refine wpAnyH_take (i := 12) (v := ?_) rfl (by kernel_rfl) (by kernel_rfl) (by kernel_rfl) (fun _ _ _ h => h) (Or.inl ⟨by rfl, ?_⟩) hHeld ?_
      rotate_left
      · intro w hSw; (try dsimp only at hSw); first | (go_simp; done) | (go_simp; with_reducible rfl)
      try simp only [Act.put, List.setIfInBounds_toArray, List.set_cons_zero, List.set_cons_succ, List.getElem_toArray, List.getElem_cons_zero, List.getElem_cons_succ]
      refine wpAnyH_take (i := 13) (v := ?_) rfl (by kernel_rfl) (by kernel_rfl) (by kernel_rfl) (fun _ _ _ h => h) (Or.inl ⟨by rfl, ?_⟩) hHeld ?_
      rotate_left
      · intro w hSw; (try dsimp only at hSw); first | (go_simp; done) | (go_simp; with_reducible rfl)
      try simp only [Act.put, List.setIfInBounds_toArray, List.set_cons_zero, List.set_cons_succ, List.getElem_toArray, List.getElem_cons_zero, List.getElem_cons_succ]
      refine wpAnyH_take (i := 14) (v := ?_) rfl (by kernel_rfl) (by kernel_rfl) (by kernel_rfl) (fun _ _ _ h => h) (Or.inl ⟨by rfl, ?_⟩) hHeld ?_
      rotate_left
      · intro w hSw; (try dsimp only at hSw); first | (go_simp; done) | (go_simp; with_reducible rfl)
      try simp only [Act.put, List.setIfInBounds_toArray, List.set_cons_zero, List.set_cons_succ, List.getElem_toArray, List.getElem_cons_zero, List.getElem_cons_succ]
      refine wpAnyH_take (i := 15) (v := ?_) rfl (by kernel_rfl) (by kernel_rfl) (by kernel_rfl) (fun _ _ _ h => h) (Or.inl ⟨by rfl, ?_⟩) hHeld ?_
      rotate_left
      · intro w hSw; (try dsimp only at hSw); first | (go_simp; done) | (go_simp; with_reducible rfl)
      try simp only [Act.put, List.setIfInBounds_toArray, List.set_cons_zero, List.set_cons_succ, List.getElem_toArray, List.getElem_cons_zero, List.getElem_cons_succ]
      refine wpAnyH_take (i := 16) (v := ?_) rfl (by kernel_rfl) (by kernel_rfl) (by kernel_rfl) (fun _ _ _ h => h) (Or.inl ⟨by rfl, ?_⟩) hHeld ?_
      rotate_left
      · intro w hSw; (try dsimp only at hSw); first | (go_simp; done) | (go_simp; with_reducible rfl)
      try simp only [Act.put, List.setIfInBounds_toArray, List.set_cons_zero, List.set_cons_succ, List.getElem_toArray, List.getElem_cons_zero, List.getElem_cons_succ]
      refine wpAnyH_done (by kernel_rfl) ?_ _
      have hBe := hB1d.trans (hBy.mono hB1d.size)
      have hwr := hWR rx wy hok hBe
      clear hHeld hSy hSd hRy hR1d href hn hBy
      go_wp2_with fail
      refine hwr.mono ?_
      rintro e wz ⟨⟨ez, rfl⟩, hPost⟩
      obtain ⟨cs', hRz⟩ := hRd _ _ _ hPost
      have d1 := hRz.cell1
      have d0 := hRz.blk.free 1
      clear hwr hRz
      go_wp2_with fail
      first | go_end0 | refine bodyPost_ret (results_none rfl _ _ _) rfl ?_
      unfold RuneEnd
      rw [HPX.out]
      exact ⟨rfl, _, _, hBe, hPost, rfl⟩
  · have hb38 : (bt s at_ == 38) = false := by simpa using h38
    cases hr : rChar (rn s at_) with
    | false =>
      have hpx : pieceX s at_ = .bad 140 at_ := by unfold pieceX; rw [if_neg h38, if_neg (by rw [hr]; simp)]
      have HPX := Lib.hid hpx; have HR := Lib.hid hr
      clear hpx hr h h38
      go_enter Tryz.func74, Tryz.ntmps74
      go_wp2_with fail
      refine hn.mono ?_
      rintro e w1 ⟨rfl, hB1⟩
      have hB1d := hB1.drew
      have hR1d := HH.out.on hB1d
      have hTd := (hG.on hB1d).1
      have hSd : w1.drew.cell? ⟨rb, 0, none⟩ = some (Value.string s) ∧ w1.drew.cell? ⟨rb, 1, none⟩ = some (Value.int .i64 (at_ : Int)) := ⟨hR1d.cell0, hR1d.cell1⟩
      go_upto_region 6 with fail
      refine wp_region_held_drew (S := fun w' => w'.cell? ⟨rb, 0, none⟩ = some (Value.string s) ∧ w'.cell? ⟨rb, 1, none⟩ = some (Value.int .i64 (at_ : Int))) (by kernel_rfl) (hSd) (fun hHeld => ?_)
      refine wpAnyH_take (i := 0) (v := ?_) rfl (by kernel_rfl) (by kernel_rfl) (by kernel_rfl) (fun _ _ _ h => h) (Or.inl ⟨by rfl, ?_⟩) hHeld ?_
      rotate_left
      · intro w hSw; (try dsimp only at hSw); first | (go_simp; done) | (go_simp; with_reducible rfl)
      try simp only [Act.put, List.setIfInBounds_toArray, List.set_cons_zero, List.set_cons_succ, List.getElem_toArray, List.getElem_cons_zero]
      refine wpAnyH_take (i := 1) (v := ?_) rfl (by kernel_rfl) (by kernel_rfl) (by kernel_rfl) (fun _ _ _ h => h) (Or.inl ⟨by rfl, ?_⟩) hHeld ?_
      rotate_left
      · intro w hSw; (try dsimp only at hSw); first | (go_simp; done) | (go_simp; with_reducible rfl)
      try simp only [Act.put, List.setIfInBounds_toArray, List.set_cons_zero, List.set_cons_succ, List.getElem_toArray, List.getElem_cons_zero, List.getElem_cons_succ]
      refine wpAnyH_take (i := 2) (v := ?_) rfl (by kernel_rfl) (by kernel_rfl) (by kernel_rfl) (fun _ _ _ h => h) (Or.inl ⟨by rfl, ?_⟩) hHeld ?_
      rotate_left
      · intro w hSw; (try dsimp only at hSw); first | (go_simp; done) | (go_simp; with_reducible rfl)
      try simp only [Act.put, List.setIfInBounds_toArray, List.set_cons_zero, List.set_cons_succ, List.getElem_toArray, List.getElem_cons_zero, List.getElem_cons_succ]
      refine wpAnyH_take (i := 3) (v := ?_) rfl (by kernel_rfl) (by kernel_rfl) (by kernel_rfl) (fun _ _ _ h => h) (Or.inl ⟨by rfl, ?_⟩) hHeld ?_
      rotate_left
      · intro w hSw; (try dsimp only at hSw); first | (go_simp; done) | (go_simp; with_reducible rfl)
      try simp only [Act.put, List.setIfInBounds_toArray, List.set_cons_zero, List.set_cons_succ, List.getElem_toArray, List.getElem_cons_zero, List.getElem_cons_succ]
      refine wpAnyH_take (i := 4) (v := ?_) rfl (by kernel_rfl) (by kernel_rfl) (by kernel_rfl) (fun _ _ _ h => h) (Or.inl ⟨by rfl, ?_⟩) hHeld ?_
      rotate_left
      · intro w hSw; (try dsimp only at hSw); first | (go_simp; done) | (go_simp; with_reducible rfl)
      try simp only [Act.put, List.setIfInBounds_toArray, List.set_cons_zero, List.set_cons_succ, List.getElem_toArray, List.getElem_cons_zero, List.getElem_cons_succ]
      refine wpAnyH_take (i := 5) (v := ?_) rfl (by kernel_rfl) (by kernel_rfl) (by kernel_rfl) (fun _ _ _ h => h) (Or.inl ⟨by rfl, ?_⟩) hHeld ?_
      rotate_left
      · intro w hSw; (try dsimp only at hSw); first | (go_simp; done) | (go_simp; with_reducible rfl)
      try simp only [Act.put, List.setIfInBounds_toArray, List.set_cons_zero, List.set_cons_succ, List.getElem_toArray, List.getElem_cons_zero, List.getElem_cons_succ]
      refine wpAnyH_take (i := 6) (v := ?_) rfl (by kernel_rfl) (by kernel_rfl) (by kernel_rfl) (fun _ _ _ h => h) (Or.inl ⟨by rfl, ?_⟩) hHeld ?_
      rotate_left
      · intro w hSw; (try dsimp only at hSw); first | (go_simp; done) | (go_simp; with_reducible rfl)
      try simp only [Act.put, List.setIfInBounds_toArray, List.set_cons_zero, List.set_cons_succ, List.getElem_toArray, List.getElem_cons_zero, List.getElem_cons_succ]
      refine wpAnyH_take (i := 7) (v := ?_) rfl (by kernel_rfl) (by kernel_rfl) (by kernel_rfl) (fun _ _ _ h => h) (Or.inl ⟨by rfl, ?_⟩) hHeld ?_
      rotate_left
      · intro w hSw; (try dsimp only at hSw); first | (go_simp; done) | (go_simp; with_reducible rfl)
      try simp only [Act.put, List.setIfInBounds_toArray, List.set_cons_zero, List.set_cons_succ, List.getElem_toArray, List.getElem_cons_zero, List.getElem_cons_succ]
      refine wpAnyH_ready (rs := [8]) (by kernel_rfl) (by simp) ?_
      refine AllReadyH.cons rfl (fun K hK => ?_) AllReadyH.nil
      go_simp
      go_wp2_with (go_at_call 95; refine (at_char s at_ _ (hTd)).mono ?_; rintro e wy ⟨⟨atr, atn, rfl, hat2, hat3⟩, hBy⟩; have hRy := hR1d.on hBy; have hSy : wy.cell? ⟨rb, 0, none⟩ = some (Value.string s) ∧ wy.cell? ⟨rb, 1, none⟩ = some (Value.int .i64 (at_ : Int)) := ⟨hRy.cell0, hRy.cell1⟩)
      refine hK.out _ _ (hSy) (fun hHeld => ?_)
      clear hK K
      refine wpAnyH_take (i := 9) (v := ?_) rfl (by kernel_rfl) (by kernel_rfl) (by kernel_rfl) (fun _ _ _ h => h) (Or.inl ⟨by rfl, ?_⟩) hHeld ?_
      rotate_left
      · intro w hSw; (try dsimp only at hSw); first | (go_simp; done) | (go_simp; with_reducible rfl)
      try simp only [Act.put, List.setIfInBounds_toArray, List.set_cons_zero, List.set_cons_succ, List.getElem_toArray, List.getElem_cons_zero, List.getElem_cons_succ]
      refine wpAnyH_take (i := 10) (v := ?_) rfl (by kernel_rfl) (by kernel_rfl) (by kernel_rfl) (fun _ _ _ h => h) (Or.inl ⟨by rfl, ?_⟩) hHeld ?_
      rotate_left
      · intro w hSw; (try dsimp only at hSw); first | (go_simp; done) | (go_simp; with_reducible rfl)
      try simp only [Act.put, List.setIfInBounds_toArray, List.set_cons_zero, List.set_cons_succ, List.getElem_toArray, List.getElem_cons_zero, List.getElem_cons_succ]
      refine wpAnyH_take (i := 11) (v := ?_) rfl (by kernel_rfl) (by kernel_rfl) (by kernel_rfl) (fun _ _ _ h => h) (Or.inl ⟨by rfl, ?_⟩) hHeld ?_
      rotate_left
      · intro w hSw; (try dsimp only at hSw); first | (go_simp; done) | (go_simp; with_reducible rfl)
      try simp only [Act.put, List.setIfInBounds_toArray, List.set_cons_zero, List.set_cons_succ, List.getElem_toArray, List.getElem_cons_zero, List.getElem_cons_succ]
      refine wpAnyH_take (i := 12) (v := ?_) rfl (by kernel_rfl) (by kernel_rfl) (by kernel_rfl) (fun _ _ _ h => h) (Or.inl ⟨by rfl, ?_⟩) hHeld ?_
      rotate_left
      · intro w hSw; (try dsimp only at hSw); first | (go_simp; done) | (go_simp; with_reducible rfl)
      try simp only [Act.put, List.setIfInBounds_toArray, List.set_cons_zero, List.set_cons_succ, List.getElem_toArray, List.getElem_cons_zero, List.getElem_cons_succ]
      refine wpAnyH_take (i := 13) (v := ?_) rfl (by kernel_rfl) (by kernel_rfl) (by kernel_rfl) (fun _ _ _ h => h) (Or.inl ⟨by rfl, ?_⟩) hHeld ?_
      rotate_left
      · intro w hSw; (try dsimp only at hSw); first | (go_simp; done) | (go_simp; with_reducible rfl)
      try simp only [Act.put, List.setIfInBounds_toArray, List.set_cons_zero, List.set_cons_succ, List.getElem_toArray, List.getElem_cons_zero, List.getElem_cons_succ]
      refine wpAnyH_done (by kernel_rfl) ?_ _
      have hBe := hB1d.trans (hBy.mono hB1d.size)
      have hch := char_any atr wy
      rw [hat2, HR.out] at hch
      have hwn := want_no hRy
      clear hHeld hSy hSd hRy hR1d hn hBy hat2 hat3
      go_wp2_with fail
      refine hch.mono ?_
      rintro e w' ⟨rfl, rfl⟩
      go_wp2_with fail
      refine hwn.mono ?_
      rintro e w' ⟨rfl, rfl⟩
      go_wp2_with fail
      refine ⟨rfl, ?_⟩
      unfold RuneEnd
      rw [HPX.out]
      exact ⟨rfl, hBe⟩
    | true =>
      have hlt := rChar_in hr
      have hpx : pieceX s at_ = .ok (at_ + wd s at_) (s.extract at_ (at_ + wd s at_)) := by unfold pieceX; rw [if_neg h38, if_pos hr]
      have hw4 := wd_in s at_ hlt
      obtain ⟨n, hnn⟩ : ∃ n, wd s at_ = n := ⟨_, rfl⟩
      rw [hnn] at hpx hw4
      have f1 : IntKind.i64.wrap ((at_ : Int) + (n : Int)) = (at_ : Int) + (n : Int) := IntWalk.i64_in _ (by omega)
      have g0 : (0 : Int) ≤ (at_ : Int) + (n : Int) := by omega
      have g1 : (at_ : Int) ≤ (at_ : Int) + (n : Int) := by omega
      have g2 : (at_ : Int) + (n : Int) ≤ (s.size : Int) := by omega
      have g3 : ((at_ : Int) + (n : Int)).toNat = at_ + n := by omega
      have HPX := Lib.hid hpx; have HR := Lib.hid hr; have HLT := Lib.hid hlt; have HNN := Lib.hid hnn
      clear hpx hr h h38 hlt hnn hw4
      go_enter Tryz.func74, Tryz.ntmps74
      go_wp2_with fail
      refine hn.mono ?_
      rintro e w1 ⟨rfl, hB1⟩
      have hB1d := hB1.drew
      have hR1d := HH.out.on hB1d
      have hTd := (hG.on hB1d).1
      have hSd : w1.drew.cell? ⟨rb, 0, none⟩ = some (Value.string s) ∧ w1.drew.cell? ⟨rb, 1, none⟩ = some (Value.int .i64 (at_ : Int)) := ⟨hR1d.cell0, hR1d.cell1⟩
      go_upto_region 6 with fail
      refine wp_region_held_drew (S := fun w' => w'.cell? ⟨rb, 0, none⟩ = some (Value.string s) ∧ w'.cell? ⟨rb, 1, none⟩ = some (Value.int .i64 (at_ : Int))) (by kernel_rfl) (hSd) (fun hHeld => ?_)
      refine wpAnyH_take (i := 0) (v := ?_) rfl (by kernel_rfl) (by kernel_rfl) (by kernel_rfl) (fun _ _ _ h => h) (Or.inl ⟨by rfl, ?_⟩) hHeld ?_
      rotate_left
      · intro w hSw; (try dsimp only at hSw); first | (go_simp; done) | (go_simp; with_reducible rfl)
      try simp only [Act.put, List.setIfInBounds_toArray, List.set_cons_zero, List.set_cons_succ, List.getElem_toArray, List.getElem_cons_zero]
      refine wpAnyH_take (i := 1) (v := ?_) rfl (by kernel_rfl) (by kernel_rfl) (by kernel_rfl) (fun _ _ _ h => h) (Or.inl ⟨by rfl, ?_⟩) hHeld ?_
      rotate_left
      · intro w hSw; (try dsimp only at hSw); first | (go_simp; done) | (go_simp; with_reducible rfl)
      try simp only [Act.put, List.setIfInBounds_toArray, List.set_cons_zero, List.set_cons_succ, List.getElem_toArray, List.getElem_cons_zero, List.getElem_cons_succ]
      refine wpAnyH_take (i := 2) (v := ?_) rfl (by kernel_rfl) (by kernel_rfl) (by kernel_rfl) (fun _ _ _ h => h) (Or.inl ⟨by rfl, ?_⟩) hHeld ?_
      rotate_left
      · intro w hSw; (try dsimp only at hSw); first | (go_simp; done) | (go_simp; with_reducible rfl)
      try simp only [Act.put, List.setIfInBounds_toArray, List.set_cons_zero, List.set_cons_succ, List.getElem_toArray, List.getElem_cons_zero, List.getElem_cons_succ]
      refine wpAnyH_take (i := 3) (v := ?_) rfl (by kernel_rfl) (by kernel_rfl) (by kernel_rfl) (fun _ _ _ h => h) (Or.inl ⟨by rfl, ?_⟩) hHeld ?_
      rotate_left
      · intro w hSw; (try dsimp only at hSw); first | (go_simp; done) | (go_simp; with_reducible rfl)
      try simp only [Act.put, List.setIfInBounds_toArray, List.set_cons_zero, List.set_cons_succ, List.getElem_toArray, List.getElem_cons_zero, List.getElem_cons_succ]
      refine wpAnyH_take (i := 4) (v := ?_) rfl (by kernel_rfl) (by kernel_rfl) (by kernel_rfl) (fun _ _ _ h => h) (Or.inl ⟨by rfl, ?_⟩) hHeld ?_
      rotate_left
      · intro w hSw; (try dsimp only at hSw); first | (go_simp; done) | (go_simp; with_reducible rfl)
      try simp only [Act.put, List.setIfInBounds_toArray, List.set_cons_zero, List.set_cons_succ, List.getElem_toArray, List.getElem_cons_zero, List.getElem_cons_succ]
      refine wpAnyH_take (i := 5) (v := ?_) rfl (by kernel_rfl) (by kernel_rfl) (by kernel_rfl) (fun _ _ _ h => h) (Or.inl ⟨by rfl, ?_⟩) hHeld ?_
      rotate_left
      · intro w hSw; (try dsimp only at hSw); first | (go_simp; done) | (go_simp; with_reducible rfl)
      try simp only [Act.put, List.setIfInBounds_toArray, List.set_cons_zero, List.set_cons_succ, List.getElem_toArray, List.getElem_cons_zero, List.getElem_cons_succ]
      refine wpAnyH_take (i := 6) (v := ?_) rfl (by kernel_rfl) (by kernel_rfl) (by kernel_rfl) (fun _ _ _ h => h) (Or.inl ⟨by rfl, ?_⟩) hHeld ?_
      rotate_left
      · intro w hSw; (try dsimp only at hSw); first | (go_simp; done) | (go_simp; with_reducible rfl)
      try simp only [Act.put, List.setIfInBounds_toArray, List.set_cons_zero, List.set_cons_succ, List.getElem_toArray, List.getElem_cons_zero, List.getElem_cons_succ]
      refine wpAnyH_take (i := 7) (v := ?_) rfl (by kernel_rfl) (by kernel_rfl) (by kernel_rfl) (fun _ _ _ h => h) (Or.inl ⟨by rfl, ?_⟩) hHeld ?_
      rotate_left
      · intro w hSw; (try dsimp only at hSw); first | (go_simp; done) | (go_simp; with_reducible rfl)
      try simp only [Act.put, List.setIfInBounds_toArray, List.set_cons_zero, List.set_cons_succ, List.getElem_toArray, List.getElem_cons_zero, List.getElem_cons_succ]
      refine wpAnyH_ready (rs := [8]) (by kernel_rfl) (by simp) ?_
      refine AllReadyH.cons rfl (fun K hK => ?_) AllReadyH.nil
      go_simp
      go_wp2_with (go_at_call 95; refine (at_char s at_ _ (hTd)).mono ?_; rintro e wy ⟨⟨atr, atn, rfl, hat2, hat3⟩, hBy⟩; have hRy := hR1d.on hBy; have hSy : wy.cell? ⟨rb, 0, none⟩ = some (Value.string s) ∧ wy.cell? ⟨rb, 1, none⟩ = some (Value.int .i64 (at_ : Int)) := ⟨hRy.cell0, hRy.cell1⟩)
      refine hK.out _ _ (hSy) (fun hHeld => ?_)
      clear hK K
      refine wpAnyH_take (i := 9) (v := ?_) rfl (by kernel_rfl) (by kernel_rfl) (by kernel_rfl) (fun _ _ _ h => h) (Or.inl ⟨by rfl, ?_⟩) hHeld ?_
      rotate_left
      · intro w hSw; (try dsimp only at hSw); first | (go_simp; done) | (go_simp; with_reducible rfl)
      try simp only [Act.put, List.setIfInBounds_toArray, List.set_cons_zero, List.set_cons_succ, List.getElem_toArray, List.getElem_cons_zero, List.getElem_cons_succ]
      refine wpAnyH_take (i := 10) (v := ?_) rfl (by kernel_rfl) (by kernel_rfl) (by kernel_rfl) (fun _ _ _ h => h) (Or.inl ⟨by rfl, ?_⟩) hHeld ?_
      rotate_left
      · intro w hSw; (try dsimp only at hSw); first | (go_simp; done) | (go_simp; with_reducible rfl)
      try simp only [Act.put, List.setIfInBounds_toArray, List.set_cons_zero, List.set_cons_succ, List.getElem_toArray, List.getElem_cons_zero, List.getElem_cons_succ]
      refine wpAnyH_take (i := 11) (v := ?_) rfl (by kernel_rfl) (by kernel_rfl) (by kernel_rfl) (fun _ _ _ h => h) (Or.inl ⟨by rfl, ?_⟩) hHeld ?_
      rotate_left
      · intro w hSw; (try dsimp only at hSw); first | (go_simp; done) | (go_simp; with_reducible rfl)
      try simp only [Act.put, List.setIfInBounds_toArray, List.set_cons_zero, List.set_cons_succ, List.getElem_toArray, List.getElem_cons_zero, List.getElem_cons_succ]
      refine wpAnyH_take (i := 12) (v := ?_) rfl (by kernel_rfl) (by kernel_rfl) (by kernel_rfl) (fun _ _ _ h => h) (Or.inl ⟨by rfl, ?_⟩) hHeld ?_
      rotate_left
      · intro w hSw; (try dsimp only at hSw); first | (go_simp; done) | (go_simp; with_reducible rfl)
      try simp only [Act.put, List.setIfInBounds_toArray, List.set_cons_zero, List.set_cons_succ, List.getElem_toArray, List.getElem_cons_zero, List.getElem_cons_succ]
      refine wpAnyH_take (i := 13) (v := ?_) rfl (by kernel_rfl) (by kernel_rfl) (by kernel_rfl) (fun _ _ _ h => h) (Or.inl ⟨by rfl, ?_⟩) hHeld ?_
      rotate_left
      · intro w hSw; (try dsimp only at hSw); first | (go_simp; done) | (go_simp; with_reducible rfl)
      try simp only [Act.put, List.setIfInBounds_toArray, List.set_cons_zero, List.set_cons_succ, List.getElem_toArray, List.getElem_cons_zero, List.getElem_cons_succ]
      refine wpAnyH_done (by kernel_rfl) ?_ _
      have hBe := hB1d.trans (hBy.mono hB1d.size)
      have hch := char_any atr wy
      rw [hat2, HR.out] at hch
      obtain ⟨rfl, rfl⟩ := hat3 HLT.out
      rw [HNN.out]
      have hwy := want_yes (.pointer (some ⟨rb, 0, none⟩)) wy
      have hB4d := hBe.drew
      have hR4d := HH.out.on hB4d
      clear hHeld hSy hSd hRy hR1d hn hBy hat2 hat3
      have hSd : wy.drew.cell? ⟨rb, 0, none⟩ = some (Value.string s) ∧ wy.drew.cell? ⟨rb, 1, none⟩ = some (Value.int .i64 (at_ : Int)) := ⟨hR4d.cell0, hR4d.cell1⟩
      go_wp2_with fail
      refine hch.mono ?_
      rintro e w' ⟨rfl, rfl⟩
      go_wp2_with fail
      refine hwy.mono ?_
      rintro e w' ⟨rfl, rfl⟩
      go_upto_region 8 with fail
      refine wp_region_held_drew (S := fun w' => w'.cell? ⟨rb, 0, none⟩ = some (Value.string s) ∧ w'.cell? ⟨rb, 1, none⟩ = some (Value.int .i64 (at_ : Int))) (by kernel_rfl) (hSd) (fun hHeld => ?_)
      refine wpAnyH_take (i := 0) (v := ?_) rfl (by kernel_rfl) (by kernel_rfl) (by kernel_rfl) (fun _ _ _ h => h) (Or.inl ⟨by rfl, ?_⟩) hHeld ?_
      rotate_left
      · intro w hSw; (try dsimp only at hSw); first | (go_simp; done) | (go_simp; with_reducible rfl)
      try simp only [Act.put, List.setIfInBounds_toArray, List.set_cons_zero, List.set_cons_succ, List.getElem_toArray, List.getElem_cons_zero]
      refine wpAnyH_take (i := 1) (v := ?_) rfl (by kernel_rfl) (by kernel_rfl) (by kernel_rfl) (fun _ _ _ h => h) (Or.inl ⟨by rfl, ?_⟩) hHeld ?_
      rotate_left
      · intro w hSw; (try dsimp only at hSw); first | (go_simp; done) | (go_simp; with_reducible rfl)
      try simp only [Act.put, List.setIfInBounds_toArray, List.set_cons_zero, List.set_cons_succ, List.getElem_toArray, List.getElem_cons_zero, List.getElem_cons_succ]
      refine wpAnyH_take (i := 2) (v := ?_) rfl (by kernel_rfl) (by kernel_rfl) (by kernel_rfl) (fun _ _ _ h => h) (Or.inl ⟨by rfl, ?_⟩) hHeld ?_
      rotate_left
      · intro w hSw; (try dsimp only at hSw); first | (go_simp; done) | (go_simp; with_reducible rfl)
      try simp only [Act.put, List.setIfInBounds_toArray, List.set_cons_zero, List.set_cons_succ, List.getElem_toArray, List.getElem_cons_zero, List.getElem_cons_succ]
      refine wpAnyH_take (i := 3) (v := ?_) rfl (by kernel_rfl) (by kernel_rfl) (by kernel_rfl) (fun _ _ _ h => h) (Or.inl ⟨by rfl, ?_⟩) hHeld ?_
      rotate_left
      · intro w hSw; (try dsimp only at hSw); first | (go_simp; done) | (go_simp; with_reducible rfl)
      try simp only [Act.put, List.setIfInBounds_toArray, List.set_cons_zero, List.set_cons_succ, List.getElem_toArray, List.getElem_cons_zero, List.getElem_cons_succ]
      refine wpAnyH_take (i := 4) (v := ?_) rfl (by kernel_rfl) (by kernel_rfl) (by kernel_rfl) (fun _ _ _ h => h) (Or.inl ⟨by rfl, ?_⟩) hHeld ?_
      rotate_left
      · intro w hSw; (try dsimp only at hSw); first | (go_simp; done) | (go_simp; with_reducible rfl)
      try simp only [Act.put, List.setIfInBounds_toArray, List.set_cons_zero, List.set_cons_succ, List.getElem_toArray, List.getElem_cons_zero, List.getElem_cons_succ]
      refine wpAnyH_take (i := 5) (v := ?_) rfl (by kernel_rfl) (by kernel_rfl) (by kernel_rfl) (fun _ _ _ h => h) (Or.inl ⟨by rfl, ?_⟩) hHeld ?_
      rotate_left
      · intro w hSw; (try dsimp only at hSw); first | (go_simp; done) | (go_simp; with_reducible rfl)
      try simp only [Act.put, List.setIfInBounds_toArray, List.set_cons_zero, List.set_cons_succ, List.getElem_toArray, List.getElem_cons_zero, List.getElem_cons_succ]
      refine wpAnyH_take (i := 6) (v := ?_) rfl (by kernel_rfl) (by kernel_rfl) (by kernel_rfl) (fun _ _ _ h => h) (Or.inl ⟨by rfl, ?_⟩) hHeld ?_
      rotate_left
      · intro w hSw; (try dsimp only at hSw); first | (go_simp; done) | (go_simp; with_reducible rfl)
      try simp only [Act.put, List.setIfInBounds_toArray, List.set_cons_zero, List.set_cons_succ, List.getElem_toArray, List.getElem_cons_zero, List.getElem_cons_succ]
      refine wpAnyH_take (i := 7) (v := ?_) rfl (by kernel_rfl) (by kernel_rfl) (by kernel_rfl) (fun _ _ _ h => h) (Or.inl ⟨by rfl, ?_⟩) hHeld ?_
      rotate_left
      · intro w hSw; (try dsimp only at hSw); first | (go_simp; done) | (go_simp; with_reducible rfl)
      try simp only [Act.put, List.setIfInBounds_toArray, List.set_cons_zero, List.set_cons_succ, List.getElem_toArray, List.getElem_cons_zero, List.getElem_cons_succ]
      refine wpAnyH_take (i := 8) (v := ?_) rfl (by kernel_rfl) (by kernel_rfl) (by kernel_rfl) (fun _ _ _ h => h) (Or.inl ⟨by rfl, ?_⟩) hHeld ?_
      rotate_left
      · intro w hSw; (try dsimp only at hSw); first | (go_simp; done) | (go_simp; with_reducible rfl)
      try simp only [Act.put, List.setIfInBounds_toArray, List.set_cons_zero, List.set_cons_succ, List.getElem_toArray, List.getElem_cons_zero, List.getElem_cons_succ]
      refine wpAnyH_take (i := 9) (v := ?_) rfl (by kernel_rfl) (by kernel_rfl) (by kernel_rfl) (fun _ _ _ h => h) (Or.inl ⟨by rfl, ?_⟩) hHeld ?_
      rotate_left
      · intro w hSw; (try dsimp only at hSw); first | (go_simp; done) | (go_simp; with_reducible rfl)
      try simp only [Act.put, List.setIfInBounds_toArray, List.set_cons_zero, List.set_cons_succ, List.getElem_toArray, List.getElem_cons_zero, List.getElem_cons_succ]
      refine wpAnyH_take (i := 10) (v := ?_) rfl (by kernel_rfl) (by kernel_rfl) (by kernel_rfl) (fun _ _ _ h => h) (Or.inl ⟨by rfl, ?_⟩) hHeld ?_
      rotate_left
      · intro w hSw; (try dsimp only at hSw); first | (go_simp; done) | (go_simp; with_reducible rfl)
      try simp only [Act.put, List.setIfInBounds_toArray, List.set_cons_zero, List.set_cons_succ, List.getElem_toArray, List.getElem_cons_zero, List.getElem_cons_succ]
      refine wpAnyH_take (i := 11) (v := ?_) rfl (by kernel_rfl) (by kernel_rfl) (by kernel_rfl) (fun _ _ _ h => h) (Or.inl ⟨by rfl, ?_⟩) hHeld ?_
      rotate_left
      · intro w hSw; (try dsimp only at hSw); first | (go_simp; done) | (go_simp; with_reducible rfl)
      try simp only [Act.put, List.setIfInBounds_toArray, List.set_cons_zero, List.set_cons_succ, List.getElem_toArray, List.getElem_cons_zero, List.getElem_cons_succ]
      refine wpAnyH_take (i := 12) (v := ?_) rfl (by kernel_rfl) (by kernel_rfl) (by kernel_rfl) (fun _ _ _ h => h) (Or.inl ⟨by rfl, ?_⟩) hHeld ?_
      rotate_left
      · intro w hSw; (try dsimp only at hSw); first | (go_simp; done) | (go_simp; with_reducible rfl)
      try simp only [Act.put, List.setIfInBounds_toArray, List.set_cons_zero, List.set_cons_succ, List.getElem_toArray, List.getElem_cons_zero, List.getElem_cons_succ]
      refine wpAnyH_take (i := 13) (v := ?_) rfl (by kernel_rfl) (by kernel_rfl) (by kernel_rfl) (fun _ _ _ h => h) (Or.inl ⟨by rfl, ?_⟩) hHeld ?_
      rotate_left
      · intro w hSw; (try dsimp only at hSw); first | (go_simp; done) | (go_simp; with_reducible rfl)
      try simp only [Act.put, List.setIfInBounds_toArray, List.set_cons_zero, List.set_cons_succ, List.getElem_toArray, List.getElem_cons_zero, List.getElem_cons_succ]
      refine wpAnyH_take (i := 14) (v := ?_) rfl (by kernel_rfl) (by kernel_rfl) (by kernel_rfl) (fun _ _ _ h => h) (Or.inl ⟨by rfl, ?_⟩) hHeld ?_
      rotate_left
      · intro w hSw; (try dsimp only at hSw); first | (go_simp; done) | (go_simp; with_reducible rfl)
      try simp only [Act.put, List.setIfInBounds_toArray, List.set_cons_zero, List.set_cons_succ, List.getElem_toArray, List.getElem_cons_zero, List.getElem_cons_succ]
      refine wpAnyH_take (i := 15) (v := ?_) rfl (by kernel_rfl) (by kernel_rfl) (by kernel_rfl) (fun _ _ _ h => h) (Or.inl ⟨by rfl, ?_⟩) hHeld ?_
      rotate_left
      · intro w hSw; (try dsimp only at hSw); first | (go_simp; done) | (go_simp; with_reducible rfl)
      try simp only [Act.put, List.setIfInBounds_toArray, List.set_cons_zero, List.set_cons_succ, List.getElem_toArray, List.getElem_cons_zero, List.getElem_cons_succ]
      refine wpAnyH_ready (rs := [16]) (by kernel_rfl) (by simp) ?_
      refine AllReadyH.cons rfl (fun K hK => ?_) AllReadyH.nil
      go_simp
      go_wp2_with (go_at_call 39; refine (hWS _ _ (by first | (rw [ByteArray.size_extract]; omega) | (simp; omega)) hB4d).mono ?_; rintro e wz ⟨⟨ez, rfl⟩, hPost⟩; obtain ⟨cs', hRz⟩ := hRd _ _ _ hPost; have hSz : wz.cell? ⟨rb, 0, none⟩ = some (Value.string s) ∧ wz.cell? ⟨rb, 1, none⟩ = some (Value.int .i64 (at_ : Int)) := ⟨hRz.cell0, hRz.cell1⟩)
      refine hK.out _ _ (hSz) (fun hHeld => ?_)
      clear hK K
      refine wpAnyH_done (by kernel_rfl) ?_ _
      have d1 := hRz.cell1
      have d0 := hRz.blk.free 1
      clear hHeld hSz hSd hRz hch hwy
      go_wp2_with fail
      first | go_end0 | refine bodyPost_ret (results_none rfl _ _ _) rfl ?_
      unfold RuneEnd
      rw [HPX.out]
      exact ⟨rfl, _, _, hB4d, hPost, rfl⟩
end

section
open Go.RowKit Go.PlainAid

section
variable {lo b o : Nat} {T : TypeId} {cs : Array Value} {v : Value} {bs : List UInt8} {w : World}
theorem Bld.later (h : Bld lo b o T cs v bs w) {w' : World} (hb : w'.heap[b]? = w.heap[b]?) (hg : ∀ g, v.ownBlock = some g → w'.heap[g]? = w.heap[g]?) (hl : lo ≤ w'.heap.size) : Bld lo b o T cs v bs w' :=
  ⟨hb.trans h.blk, h.p, h.q, ownsRow_later h.row hg, h.ne, h.lies, hl⟩
theorem Bld.own_lt (h : Bld lo b o T cs v bs w) {g : Nat} (hg : v.ownBlock = some g) : lo ≤ g ∧ g < w.heap.size := World.ownsRow.lt h.row g hg
theorem Bld.on (h : Bld lo b o T cs v bs w) {w' : World} (hB : Below w.heap.size w w') : Bld lo b o T cs v bs w' :=
  h.later (hB.block b (lt_some h.blk)) (fun g hg => hB.block g (h.own_lt hg).2) (Nat.le_trans h.lo hB.size)
end
/-- A builder of its own, new. -/
theorem bld_new (w : World) (lo : Nat) (hl : lo ≤ w.heap.size) : Bld lo w.heap.size 0 80 #[.pointer none, .slice none 0 0] (.slice none 0 0) [] (w.alloc (.cells #[.pointer none, .slice none 0 0] 80)) :=
  ⟨(by show (w.heap.push _)[w.heap.size]? = _; simp), .inl rfl, rfl, ⟨rfl, .inl ⟨rfl, rfl⟩⟩, by simp [Value.ownBlock], by kernel_rfl, by simp; omega⟩
/-- A rune into a builder of its own: the reader stands. -/
theorem wrote_kept {rb : Nat} {s : ByteArray} {cs csb : Array Value} {w wr W w1 : World} {p vb : Nat} {v : Value} {acc l : List UInt8} {T : TypeId} (hM : Moved rb s cs w p wr) (hrb : rb < w.heap.size) (hvb : w.heap.size ≤ vb) (hb : Bld w.heap.size vb 0 T csb v acc wr) (hB : Below wr.heap.size wr W) (hW : Wrote w.heap.size vb 0 T csb v acc l W w1) :
    Moved rb s cs w p w1 := by
  obtain ⟨v', h1, h2, h3⟩ := hW
  have hz := hM.2.size
  have hMW := hM.on hB
  have hzW := hMW.2.size
  have ht := hMW.1.blk
  have hlt := ht.lt'
  refine ⟨⟨(h2.block rb hlt (by omega) (fun e => by have := (hb.own_lt e).1; omega)).trans ht, hMW.1.c0, hMW.1.c1⟩, hMW.2.trans ⟨h2.os, h2.tape, h2.output, h2.size, fun k hk hx => ?_⟩⟩
  exact h2.block k (by have := hMW.2.size; omega) (by omega) (fun e => by have := (hb.own_lt e).1; omega)
/-- .. the reader has moved. -/
theorem wrote_moved {rb : Nat} {s : ByteArray} {cs csb : Array Value} {w wr W w1 : World} {p vb : Nat} {v : Value} {acc l : List UInt8} {T : TypeId} (hM : Moved rb s cs w p wr) (hrb : rb < w.heap.size) (hvb : w.heap.size ≤ vb) (hb : Bld w.heap.size vb 0 T csb v acc wr) (hB : Below wr.heap.size wr W) (hW : Wrote w.heap.size vb 0 T csb v acc l W w1) (q : Nat) :
    Moved rb s cs w q (w1.setCell ⟨rb, 1, none⟩ (.int .i64 (q : Int))) ∧ ∃ csb' v', Bld w.heap.size vb 0 T csb' v' (acc ++ l) (w1.setCell ⟨rb, 1, none⟩ (.int .i64 (q : Int))) := by
  have hMk := wrote_kept hM hrb hvb hb hB hW
  obtain ⟨v', h1, h2, h3⟩ := hW
  refine ⟨hMk.set q, _, v', h1.later ?_ ?_ ?_⟩
  · exact Below.heap_setCell _ _ _ _ (fun e => by simp at e; omega)
  · intro g hg
    exact Below.heap_setCell _ _ _ _ (fun e => by have := h3 g hg; simp at e; omega)
  · have := h1.lo; simpa using this
theorem encLen (r : Int) (h : okRune r) : (Lib.encodeRune r).length ≤ 4 := by
  unfold okRune at h
  have e : (Lib.encodeRune r).length = (Lib.runeCells r).length := by rw [← Lib.byteCells_encodeRune]; simp [Lib.byteCells]
  rw [e]
  by_cases c0 : r ≤ 127
  · simp [Lib.runeCells, Lib.encodeRuneZ_one (show 0 ≤ r by omega) c0]
  by_cases c1 : r ≤ 2047
  · simp [Lib.runeCells, Lib.encodeRuneZ_two (show 128 ≤ r by omega) c1]
  by_cases c2 : r < 55296
  · simp [Lib.runeCells, Lib.encodeRuneZ_three (Or.inl ⟨show 2048 ≤ r by omega, c2⟩)]
  by_cases c3 : r ≤ 65535
  · simp [Lib.runeCells, Lib.encodeRuneZ_three (Or.inr ⟨show 57343 < r by omega, c3⟩)]
  · simp [Lib.runeCells, Lib.encodeRuneZ_four (r := r) (by omega) (by omega)]
/-- A piece: where it ends, how long it is. -/
theorem piece_in {s : ByteArray} {p q : Nat} {b : ByteArray} (h : pieceX s p = .ok q b) (hp : p ≤ s.size) : p < q ∧ q ≤ s.size ∧ b.size ≤ 4 * (q - p) := by
  unfold pieceX at h
  split at h
  · cases hr : refX s p with
    | none => rw [hr] at h; cases h
    | some r =>
      rw [hr] at h
      obtain ⟨h1, h2, h3⟩ := refX_ok hr hp
      obtain ⟨x, n⟩ := r
      simp only at h h1 h2 h3
      injection h with h4 h5
      subst h4 h5
      have := encLen x h1
      have e : (encB x).size = (Lib.encodeRune x).length := by simp [encB, ByteArray.size]
      omega
  · split at h
    · rename_i hc
      have hlt := rChar_in hc
      have h1 := wd_pos s p hlt
      have h2 := wd_in s p hlt
      injection h with h4 h5
      subst h4 h5
      rw [ByteArray.size_extract]
      omega
    · cases h
theorem valF_end {s : ByteArray} {q : Int} {g p : Nat} {acc : ByteArray} (h : bt s p = q) : valF s q (g + 1) p acc = .ok (p + 1) acc := by
  conv => lhs; unfold valF
  rw [if_pos h]
theorem valF_bad {s : ByteArray} {q : Int} {g p : Nat} {acc : ByteArray} (h : bt s p ≠ q) (h2 : s.size ≤ p ∨ bt s p = 60) : valF s q (g + 1) p acc = .bad 140 p := by
  conv => lhs; unfold valF
  rw [if_neg h, if_pos h2]
theorem valF_go {s : ByteArray} {q : Int} {g p : Nat} {acc : ByteArray} (h : bt s p ≠ q) (h2 : ¬ (s.size ≤ p ∨ bt s p = 60)) : valF s q (g + 1) p acc = match pieceX s p with
    | .bad e a => .bad e a
    | .ok p' b => valF s q g p' (acc ++ b) := by
  conv => lhs; unfold valF
  rw [if_neg h, if_neg h2]
  rfl
/-- What rune comes to at a builder of its own. -/
def OwnEnd (rb : Nat) (s : ByteArray) (cs : Array Value) (w : World) (vb : Nat) (acc : List UInt8) (x : Xr ByteArray) (en : Ending) (w' : World) : Prop :=
  match x with
  | .bad e a => en = Died e a ∧ KeepX w.heap.size rb w w'
  | .ok q b => en = .returned (.tuple #[]) ∧ Moved rb s cs w q w' ∧ ∃ csb v, Bld w.heap.size vb 0 80 csb v (acc ++ b.data.toList) w'
theorem rune_own {rb : Nat} {s : ByteArray} {cs csb : Array Value} {w wx : World} {p vb : Nat} {v : Value} {acc : List UInt8} (hM : Moved rb s cs w p wx) (hrb : rb < w.heap.size) (hvb : w.heap.size ≤ vb) (hb : Bld w.heap.size vb 0 80 csb v acc wx) (hp : p ≤ s.size) (hz : s.size ≤ 4000000000) (hG : Gx wx) (hacc : acc.length ≤ 4 * p) :
    Calls Tryz.prog 74 #[.pointer (some ⟨rb, 0, none⟩), .pointer (some ⟨vb, 0, none⟩)] wx fun en w' => OwnEnd rb s cs w vb acc (pieceX s p) en w' := by
  have hWS : ∀ (b : ByteArray) W, b.size ≤ s.size → Below wx.heap.size wx W → Calls Tryz.prog 39 #[.pointer (some ⟨vb, 0, none⟩), .string b] W fun e w' => (∃ a, e = .returned a) ∧ (Below wx.heap.size wx W ∧ Wrote w.heap.size vb 0 80 csb v acc b.data.toList W w') := fun b W hbz hB =>
    (bWriteString (hb.on hB) b (by omega) (by decide)).mono fun e w' ⟨h1, h2⟩ => ⟨⟨_, h1⟩, hB, h2⟩
  have hWR : ∀ (r : Int) W, okRune r → Below wx.heap.size wx W → Calls Tryz.prog 101 #[.pointer (some ⟨vb, 0, none⟩), .int .i32 r] W fun e w' => (∃ a, e = .returned a) ∧ (Below wx.heap.size wx W ∧ Wrote w.heap.size vb 0 80 csb v acc (Lib.encodeRune r) W w') := fun r W hr hB =>
    (bWriteRune (hb.on hB) r hr (by omega) (by decide)).mono fun e w' ⟨h1, h2⟩ => ⟨h1, hB, h2⟩
  have hRd : ∀ l W W', (Below wx.heap.size wx W ∧ Wrote w.heap.size vb 0 80 csb v acc l W W') → ∃ cs', Rdr rb s p cs' W' := fun l W W' hP => ⟨_, (wrote_kept hM hrb hvb hb hP.1 hP.2).1⟩
  refine (rune_gen (.pointer (some ⟨vb, 0, none⟩)) (fun l W W' => Below wx.heap.size wx W ∧ Wrote w.heap.size vb 0 80 csb v acc l W W') hM.1 hp hz hG hWS hWR hRd).mono ?_
  intro e w' hE
  unfold RuneEnd at hE
  unfold OwnEnd
  cases hpx : pieceX s p with
  | bad ee aa =>
    rw [hpx] at hE
    exact ⟨hE.1, (hM.on hE.2).2⟩
  | ok q b =>
    rw [hpx] at hE
    obtain ⟨he, W, w1, hBW, ⟨hBW', hWr⟩, rfl⟩ := hE
    obtain ⟨hMn, hBn⟩ := wrote_moved hM hrb hvb hb hBW hWr q
    exact ⟨he, hMn, hBn⟩
theorem toA_append (acc : List UInt8) (b : ByteArray) : (⟨acc.toArray⟩ : ByteArray) ++ b = ⟨(acc ++ b.data.toList).toArray⟩ := by
  apply ByteArray.ext
  simp [ByteArray.data_append]
end
end Go.Proofs.YtdipbfchlopeaaaGreatDoor
