/-
  Patterns of dates: how far two skeletons are apart, the reference's; Apart.
-/
import Derived.Test.YtbnhfjhhbgmhfaaDoorDpAp
namespace Go.Proofs.YtbnhfjhhbgmhfaaDoor
open Go.RowKit Go.PlainAid

theorem PSk.ok {l : List PF} (h : PSk l) : PFok l := fun x hx => by
  have := h.2 x hx
  exact ⟨this.2.1, this.2.2.1, by rw [this.1]; decide⟩

set_option maxRecDepth 100000 in
set_option maxHeartbeats 16000000 in
theorem rApart_any (va vb : Value) (a b : List PF) (w : World) (hva : PFAt w va a) (hvb : PFAt w vb b) (ha : PSk a) (hb : PSk b) :
    Calls Tryd.prog 27 #[va, vb] w fun e w' => e = .returned (.int .i64 (apartL a b)) ∧ Below w.heap.size w w' := by
  have HA0 := Lib.hid hva
  have HB0 := Lib.hid hvb
  obtain ⟨aa, ca, rfl, hlena, hca⟩ := hva
  obtain ⟨ab, cb, rfl, hlenb, hcb⟩ := hvb
  have HCA := Lib.hid hca
  have HCB := Lib.hid hcb
  have HSA := Lib.hid ha; have HSB := Lib.hid hb
  clear hca hcb ha hb
  go_enter Tryd.func27, Tryd.ntmps27
  go_wp2_with fail
  go_loopg [5, 6] 13 (fun g s5 s6 wr => ∃ (r : Nat), r + g = 13 ∧ s5 = .int .i64 (apartN a b r) ∧ s6 = .int .i64 ((r : Int) + 1) ∧ Below w.heap.size w wr)
  case atStart => exact ⟨0, rfl, rfl, rfl, Below.refl _ _⟩
  case round =>
    obtain ⟨r, hg, rfl, rfl, hB⟩ := hrel
    have hzB := hB.size
    have hbd := apartN_bd HSA.out HSB.out r
    have hbd1 := dR_bd HSA.out HSB.out (r + 1)
    by_cases hr : r < 13
    · have hia : Calls Tryd.prog 49 #[.slice aa a.length ca, .int .i64 ((r : Int) + 1)] wr fun e w' => FoundI a (r + 1) e ∧ w' = wr := by
        have h := rFind_any (.slice aa a.length ca) a (r + 1) (by omega) wr (HA0.out.later hB) HSA.out.ok
        push_cast at h
        exact h
      have hib : Calls Tryd.prog 49 #[.slice ab b.length cb, .int .i64 ((r : Int) + 1)] wr fun e w' => FoundI b (r + 1) e ∧ w' = wr := by
        have h := rFind_any (.slice ab b.length cb) b (r + 1) (by omega) wr (HB0.out.later hB) HSB.out.ok
        push_cast at h
        exact h
      have hrI : (r : Int) + 1 ≤ 13 := by omega
      have hst : apartN a b (r + 1) = apartN a b r + dR a b (r + 1) := rfl
      have HST := Lib.hid hst
      clear hst
      go_wp2_with fail
      refine hia.mono ?_
      rintro e w1 ⟨⟨ka, rfl, hfa⟩, rfl⟩
      have HFA := Lib.hid hfa
      clear hfa hia
      go_wp2_with fail
      refine hib.mono ?_
      rintro e w2 ⟨⟨kb, rfl, hfb⟩, rfl⟩
      have hfa := HFA.out
      clear hib
      rcases hfa with ⟨rfl, hna⟩ | ⟨na, hna, rfl, hxa⟩
      · rcases hfb with ⟨rfl, hnb⟩ | ⟨nb, hnb, rfl, hxb⟩
        · have hd := dR_none hna hnb
          have HD := Lib.hid hd
          clear hd hna hnb
          go_wp2_with fail
          go_roundg (gk - 1)
          case rel => exact ⟨r + 1, by omega, (by rw [HST.out, HD.out]; congr 1; omega), by push_cast; rfl, hB⟩
          case measure => omega
        · have hd := dR_right hna hxb
          have HD := Lib.hid hd
          clear hd hna hxb
          go_wp2_with fail
          go_roundg (gk - 1)
          case rel => exact ⟨r + 1, by omega, (by rw [HST.out, HD.out]), by push_cast; rfl, hB⟩
          case measure => omega
      · rcases hfb with ⟨rfl, hnb⟩ | ⟨nb, hnb, rfl, hxb⟩
        · have hd := dR_left hxa hnb
          have HD := Lib.hid hd
          clear hd hxa hnb
          go_wp2_with fail
          go_roundg (gk - 1)
          case rel => exact ⟨r + 1, by omega, (by rw [HST.out, HD.out]), by push_cast; rfl, hB⟩
          case measure => omega
        · have hd := dR_both hxa hxb
          have HD := Lib.hid hd
          have hxs := PSk.rows HSA.out hna
          have hys := PSk.rows HSB.out hnb
          have hnaI : (0 : Int) ≤ na := by omega
          have hnal : (na : Int) < a.length := by omega
          have hnbI : (0 : Int) ≤ nb := by omega
          have hnbl : (nb : Int) < b.length := by omega
          obtain ⟨ga, offa, rfl, hga, p0, p1, _⟩ := HCA.out na hna
          obtain ⟨gb, offb, rfl, hgb, q0, q1, _⟩ := HCB.out nb hnb
          have HP0 := Lib.hid p0; have HP1 := Lib.hid p1; have HQ0 := Lib.hid q0; have HQ1 := Lib.hid q1
          have a0 := (hB.cell (p := ⟨ga, _, none⟩) hga).trans p0
          have a1 := (hB.cell (p := ⟨ga, _, none⟩) hga).trans p1
          have b0 := (hB.cell (p := ⟨gb, _, none⟩) hgb).trans q0
          have b1 := (hB.cell (p := ⟨gb, _, none⟩) hgb).trans q1
          generalize a[na] = x at *
          generalize b[nb] = y at *
          obtain ⟨xb, xc, xt⟩ := x
          obtain ⟨yb, yc, yt⟩ := y
          simp only at a0 a1 b0 b1 hxs hys HD HP0 HP1 HQ0 HQ1
          clear p0 p1 q0 q1 hd hxa hxb
          have i1 : IntKind.i64.wrap (xc - yc) = xc - yc := IntWalk.i64_in _ (by omega)
          have hwd : ∀ W, Calls Tryd.prog 54 #[.int .i64 ((r : Int) + 1), .int .i64 xc, .int .i64 yc] W fun e w' => e = .returned (.bool (wordsB (r + 1) xc yc)) ∧ w' = W := fun W => by
            have h := rWords_any (r + 1) xc yc W
            push_cast at h
            exact h
          by_cases hsg : xc - yc < 0
          · have hsg2 : xc < yc := by omega
            cases hw : wordsB (r + 1) xc yc with
            | true =>
              rw [hw] at hwd
              rw [hw] at HD
              by_cases hxy : xb = yb
              · have hxe : (xb != yb) = false := by simp [hxy]
                have hd2 : dR a b (r + 1) = 10 * (yc - xc) + 100 := by rw [HD.out]; simp only [if_true, if_pos hxy]; omega
                clear hw hxy
                have HD2 := Lib.hid hd2
                clear hd2
                go_upto_region 9 with fail
                go_quiet (fail)
                have hB1 := bdrN hB nq
                have z0 := (hB1.cell (p := ⟨ga, _, none⟩) hga).trans HP0.out
                have z1 := (hB1.cell (p := ⟨ga, _, none⟩) hga).trans HP1.out
                have y0 := (hB1.cell (p := ⟨gb, _, none⟩) hgb).trans HQ0.out
                have y1 := (hB1.cell (p := ⟨gb, _, none⟩) hgb).trans HQ1.out
                generalize w2.drewN nq = w3 at *
                clear a0 a1 b0 b1
                go_wp2_with fail
                go_upto_region 13 with fail
                go_quiet ((go_at_call 54; exact Calls.quiet_of_same (hwd _)))
                have hB2 := bdrN hB1 nq
                have x0 := (hB2.cell (p := ⟨ga, _, none⟩) hga).trans HP0.out
                have x1 := (hB2.cell (p := ⟨gb, _, none⟩) hgb).trans HQ0.out
                generalize w3.drewN nq = w4 at *
                clear z0 z1 y0 y1
                go_wp2_with fail
                go_upto_region 15 with fail
                go_quiet (fail)
                have hB3 := bdrN hB2 nq
                go_wp2_with fail
                go_roundg (gk - 1)
                case rel => exact ⟨r + 1, by omega, (by rw [HST.out, HD2.out]; try (first | rfl | (congr 1; omega))), by push_cast; rfl, hB3⟩
                case measure => omega
              · have hxe : (xb != yb) = true := by simp [hxy]
                have hd2 : dR a b (r + 1) = 10 * (yc - xc) + 100 + 1 := by rw [HD.out]; simp only [if_true, if_neg hxy]; omega
                clear hw hxy
                have HD2 := Lib.hid hd2
                clear hd2
                go_upto_region 9 with fail
                go_quiet (fail)
                have hB1 := bdrN hB nq
                have z0 := (hB1.cell (p := ⟨ga, _, none⟩) hga).trans HP0.out
                have z1 := (hB1.cell (p := ⟨ga, _, none⟩) hga).trans HP1.out
                have y0 := (hB1.cell (p := ⟨gb, _, none⟩) hgb).trans HQ0.out
                have y1 := (hB1.cell (p := ⟨gb, _, none⟩) hgb).trans HQ1.out
                generalize w2.drewN nq = w3 at *
                clear a0 a1 b0 b1
                go_wp2_with fail
                go_upto_region 13 with fail
                go_quiet ((go_at_call 54; exact Calls.quiet_of_same (hwd _)))
                have hB2 := bdrN hB1 nq
                have x0 := (hB2.cell (p := ⟨ga, _, none⟩) hga).trans HP0.out
                have x1 := (hB2.cell (p := ⟨gb, _, none⟩) hgb).trans HQ0.out
                generalize w3.drewN nq = w4 at *
                clear z0 z1 y0 y1
                go_wp2_with fail
                go_upto_region 15 with fail
                go_quiet (fail)
                have hB3 := bdrN hB2 nq
                go_wp2_with fail
                go_roundg (gk - 1)
                case rel => exact ⟨r + 1, by omega, (by rw [HST.out, HD2.out]; try (first | rfl | (congr 1; omega))), by push_cast; rfl, hB3⟩
                case measure => omega
            | false =>
              rw [hw] at hwd
              rw [hw] at HD
              by_cases hxy : xb = yb
              · have hxe : (xb != yb) = false := by simp [hxy]
                have hd2 : dR a b (r + 1) = 10 * (yc - xc) := by rw [HD.out]; simp only [Bool.false_eq_true, if_false, if_pos hxy]; omega
                clear hw hxy
                have HD2 := Lib.hid hd2
                clear hd2
                go_upto_region 9 with fail
                go_quiet (fail)
                have hB1 := bdrN hB nq
                have z0 := (hB1.cell (p := ⟨ga, _, none⟩) hga).trans HP0.out
                have z1 := (hB1.cell (p := ⟨ga, _, none⟩) hga).trans HP1.out
                have y0 := (hB1.cell (p := ⟨gb, _, none⟩) hgb).trans HQ0.out
                have y1 := (hB1.cell (p := ⟨gb, _, none⟩) hgb).trans HQ1.out
                generalize w2.drewN nq = w3 at *
                clear a0 a1 b0 b1
                go_wp2_with fail
                go_upto_region 13 with fail
                go_quiet ((go_at_call 54; exact Calls.quiet_of_same (hwd _)))
                have hB2 := bdrN hB1 nq
                have x0 := (hB2.cell (p := ⟨ga, _, none⟩) hga).trans HP0.out
                have x1 := (hB2.cell (p := ⟨gb, _, none⟩) hgb).trans HQ0.out
                generalize w3.drewN nq = w4 at *
                clear z0 z1 y0 y1
                go_wp2_with fail
                go_upto_region 15 with fail
                go_quiet (fail)
                have hB3 := bdrN hB2 nq
                go_wp2_with fail
                go_roundg (gk - 1)
                case rel => exact ⟨r + 1, by omega, (by rw [HST.out, HD2.out]; try (first | rfl | (congr 1; omega))), by push_cast; rfl, hB3⟩
                case measure => omega
              · have hxe : (xb != yb) = true := by simp [hxy]
                have hd2 : dR a b (r + 1) = 10 * (yc - xc) + 1 := by rw [HD.out]; simp only [Bool.false_eq_true, if_false, if_neg hxy]; omega
                clear hw hxy
                have HD2 := Lib.hid hd2
                clear hd2
                go_upto_region 9 with fail
                go_quiet (fail)
                have hB1 := bdrN hB nq
                have z0 := (hB1.cell (p := ⟨ga, _, none⟩) hga).trans HP0.out
                have z1 := (hB1.cell (p := ⟨ga, _, none⟩) hga).trans HP1.out
                have y0 := (hB1.cell (p := ⟨gb, _, none⟩) hgb).trans HQ0.out
                have y1 := (hB1.cell (p := ⟨gb, _, none⟩) hgb).trans HQ1.out
                generalize w2.drewN nq = w3 at *
                clear a0 a1 b0 b1
                go_wp2_with fail
                go_upto_region 13 with fail
                go_quiet ((go_at_call 54; exact Calls.quiet_of_same (hwd _)))
                have hB2 := bdrN hB1 nq
                have x0 := (hB2.cell (p := ⟨ga, _, none⟩) hga).trans HP0.out
                have x1 := (hB2.cell (p := ⟨gb, _, none⟩) hgb).trans HQ0.out
                generalize w3.drewN nq = w4 at *
                clear z0 z1 y0 y1
                go_wp2_with fail
                go_upto_region 15 with fail
                go_quiet (fail)
                have hB3 := bdrN hB2 nq
                go_wp2_with fail
                go_roundg (gk - 1)
                case rel => exact ⟨r + 1, by omega, (by rw [HST.out, HD2.out]; try (first | rfl | (congr 1; omega))), by push_cast; rfl, hB3⟩
                case measure => omega
          · have hsg2 : ¬ xc < yc := by omega
            cases hw : wordsB (r + 1) xc yc with
            | true =>
              rw [hw] at hwd
              rw [hw] at HD
              by_cases hxy : xb = yb
              · have hxe : (xb != yb) = false := by simp [hxy]
                have hd2 : dR a b (r + 1) = 10 * (xc - yc) + 100 := by rw [HD.out]; simp only [if_true, if_pos hxy]; omega
                clear hw hxy
                have HD2 := Lib.hid hd2
                clear hd2
                go_upto_region 9 with fail
                go_quiet (fail)
                have hB1 := bdrN hB nq
                have z0 := (hB1.cell (p := ⟨ga, _, none⟩) hga).trans HP0.out
                have z1 := (hB1.cell (p := ⟨ga, _, none⟩) hga).trans HP1.out
                have y0 := (hB1.cell (p := ⟨gb, _, none⟩) hgb).trans HQ0.out
                have y1 := (hB1.cell (p := ⟨gb, _, none⟩) hgb).trans HQ1.out
                generalize w2.drewN nq = w3 at *
                clear a0 a1 b0 b1
                go_wp2_with fail
                go_upto_region 13 with fail
                go_quiet ((go_at_call 54; exact Calls.quiet_of_same (hwd _)))
                have hB2 := bdrN hB1 nq
                have x0 := (hB2.cell (p := ⟨ga, _, none⟩) hga).trans HP0.out
                have x1 := (hB2.cell (p := ⟨gb, _, none⟩) hgb).trans HQ0.out
                generalize w3.drewN nq = w4 at *
                clear z0 z1 y0 y1
                go_wp2_with fail
                go_upto_region 15 with fail
                go_quiet (fail)
                have hB3 := bdrN hB2 nq
                go_wp2_with fail
                go_roundg (gk - 1)
                case rel => exact ⟨r + 1, by omega, (by rw [HST.out, HD2.out]; try (first | rfl | (congr 1; omega))), by push_cast; rfl, hB3⟩
                case measure => omega
              · have hxe : (xb != yb) = true := by simp [hxy]
                have hd2 : dR a b (r + 1) = 10 * (xc - yc) + 100 + 1 := by rw [HD.out]; simp only [if_true, if_neg hxy]; omega
                clear hw hxy
                have HD2 := Lib.hid hd2
                clear hd2
                go_upto_region 9 with fail
                go_quiet (fail)
                have hB1 := bdrN hB nq
                have z0 := (hB1.cell (p := ⟨ga, _, none⟩) hga).trans HP0.out
                have z1 := (hB1.cell (p := ⟨ga, _, none⟩) hga).trans HP1.out
                have y0 := (hB1.cell (p := ⟨gb, _, none⟩) hgb).trans HQ0.out
                have y1 := (hB1.cell (p := ⟨gb, _, none⟩) hgb).trans HQ1.out
                generalize w2.drewN nq = w3 at *
                clear a0 a1 b0 b1
                go_wp2_with fail
                go_upto_region 13 with fail
                go_quiet ((go_at_call 54; exact Calls.quiet_of_same (hwd _)))
                have hB2 := bdrN hB1 nq
                have x0 := (hB2.cell (p := ⟨ga, _, none⟩) hga).trans HP0.out
                have x1 := (hB2.cell (p := ⟨gb, _, none⟩) hgb).trans HQ0.out
                generalize w3.drewN nq = w4 at *
                clear z0 z1 y0 y1
                go_wp2_with fail
                go_upto_region 15 with fail
                go_quiet (fail)
                have hB3 := bdrN hB2 nq
                go_wp2_with fail
                go_roundg (gk - 1)
                case rel => exact ⟨r + 1, by omega, (by rw [HST.out, HD2.out]; try (first | rfl | (congr 1; omega))), by push_cast; rfl, hB3⟩
                case measure => omega
            | false =>
              rw [hw] at hwd
              rw [hw] at HD
              by_cases hxy : xb = yb
              · have hxe : (xb != yb) = false := by simp [hxy]
                have hd2 : dR a b (r + 1) = 10 * (xc - yc) := by rw [HD.out]; simp only [Bool.false_eq_true, if_false, if_pos hxy]; omega
                clear hw hxy
                have HD2 := Lib.hid hd2
                clear hd2
                go_upto_region 9 with fail
                go_quiet (fail)
                have hB1 := bdrN hB nq
                have z0 := (hB1.cell (p := ⟨ga, _, none⟩) hga).trans HP0.out
                have z1 := (hB1.cell (p := ⟨ga, _, none⟩) hga).trans HP1.out
                have y0 := (hB1.cell (p := ⟨gb, _, none⟩) hgb).trans HQ0.out
                have y1 := (hB1.cell (p := ⟨gb, _, none⟩) hgb).trans HQ1.out
                generalize w2.drewN nq = w3 at *
                clear a0 a1 b0 b1
                go_wp2_with fail
                go_upto_region 13 with fail
                go_quiet ((go_at_call 54; exact Calls.quiet_of_same (hwd _)))
                have hB2 := bdrN hB1 nq
                have x0 := (hB2.cell (p := ⟨ga, _, none⟩) hga).trans HP0.out
                have x1 := (hB2.cell (p := ⟨gb, _, none⟩) hgb).trans HQ0.out
                generalize w3.drewN nq = w4 at *
                clear z0 z1 y0 y1
                go_wp2_with fail
                go_upto_region 15 with fail
                go_quiet (fail)
                have hB3 := bdrN hB2 nq
                go_wp2_with fail
                go_roundg (gk - 1)
                case rel => exact ⟨r + 1, by omega, (by rw [HST.out, HD2.out]; try (first | rfl | (congr 1; omega))), by push_cast; rfl, hB3⟩
                case measure => omega
              · have hxe : (xb != yb) = true := by simp [hxy]
                have hd2 : dR a b (r + 1) = 10 * (xc - yc) + 1 := by rw [HD.out]; simp only [Bool.false_eq_true, if_false, if_neg hxy]; omega
                clear hw hxy
                have HD2 := Lib.hid hd2
                clear hd2
                go_upto_region 9 with fail
                go_quiet (fail)
                have hB1 := bdrN hB nq
                have z0 := (hB1.cell (p := ⟨ga, _, none⟩) hga).trans HP0.out
                have z1 := (hB1.cell (p := ⟨ga, _, none⟩) hga).trans HP1.out
                have y0 := (hB1.cell (p := ⟨gb, _, none⟩) hgb).trans HQ0.out
                have y1 := (hB1.cell (p := ⟨gb, _, none⟩) hgb).trans HQ1.out
                generalize w2.drewN nq = w3 at *
                clear a0 a1 b0 b1
                go_wp2_with fail
                go_upto_region 13 with fail
                go_quiet ((go_at_call 54; exact Calls.quiet_of_same (hwd _)))
                have hB2 := bdrN hB1 nq
                have x0 := (hB2.cell (p := ⟨ga, _, none⟩) hga).trans HP0.out
                have x1 := (hB2.cell (p := ⟨gb, _, none⟩) hgb).trans HQ0.out
                generalize w3.drewN nq = w4 at *
                clear z0 z1 y0 y1
                go_wp2_with fail
                go_upto_region 15 with fail
                go_quiet (fail)
                have hB3 := bdrN hB2 nq
                go_wp2_with fail
                go_roundg (gk - 1)
                case rel => exact ⟨r + 1, by omega, (by rw [HST.out, HD2.out]; try (first | rfl | (congr 1; omega))), by push_cast; rfl, hB3⟩
                case measure => omega
    · have hrI : ¬ (r : Int) + 1 ≤ 13 := by omega
      have hre : r = 13 := by omega
      subst hre
      go_wp2_with fail
      go_ret
      exact ⟨rfl, hB⟩
end Go.Proofs.YtbnhfjhhbgmhfaaDoor
