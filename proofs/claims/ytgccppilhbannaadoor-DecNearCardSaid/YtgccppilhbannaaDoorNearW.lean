/-
  The walk of DecNear.
-/
import Derived.Test.YtgccppilhbannaaDoorNearT
import Derived.Test.YtgccppilhbannaaDoorOf
import Derived.Test.YtgccppilhbannaaDoorShift
namespace Go.Proofs.YtgccppilhbannaaDoor
open Go.RowKit Go.PlainAid

set_option maxRecDepth 100000 in
set_option maxHeartbeats 8000000 in
theorem near_bad {n : Bool} {d : ByteArray} {k m mode : Int} (h : (roundT n d k m mode).2.2.2 ≠ 0) (w : World) :
    Calls Tryd.prog 11 #[.agg #[.bool n, .string d, .int .i64 k], .int .i64 m, .int .i64 mode] w fun e w' => e = .returned (.bool true) ∧ Below w.heap.size w w' := by
  have c1 := fun W => round_tot n d k m mode W
  obtain ⟨R, hR⟩ : ∃ R, roundT n d k m mode = R := ⟨_, rfl⟩
  rw [hR] at h c1
  obtain ⟨r1, r2, r3⟩ := roundT_bad hR h
  clear hR
  obtain ⟨R1, R2, R3, E⟩ := R
  simp only at r1 r2 r3 h
  subst r1; subst r2; subst r3
  go_enter Tryd.func11, Tryd.ntmps11
  go_wp2_with fail
  refine (wakes_any _).mono ?_
  rintro e w1 ⟨rfl, hB1⟩
  have ka := (Blk.new w _ _).on hB1
  have hBw := ((Below.refl w.heap.size w).alloc (Nat.le_refl _) _).trans (hB1.mono (by simp))
  clear hB1
  have ca := ka.cell
  go_wp2_with fail
  refine (c1 _).mono ?_
  rintro e w2 ⟨rfl, hB2⟩
  have hBw := hBw.trans (hB2.mono hBw.size)
  clear hB2 ca c1
  go_wp2_with fail
  go_ret
  exact ⟨by first | rfl | (simp; done), hBw.alloc hBw.size _⟩

set_option maxRecDepth 100000 in
set_option maxHeartbeats 8000000 in
theorem near_ok {n : Bool} {d : ByteArray} {k m mode : Int} (h : (roundT n d k m mode).2.2.2 = 0) (w : World) :
    Calls Tryd.prog 11 #[.agg #[.bool n, .string d, .int .i64 k], .int .i64 m, .int .i64 mode] w fun e w' => e = .returned (.bool true) ∧ Below w.heap.size w w' := by
  have c1 := fun W => round_tot n d k m mode W
  obtain ⟨R, hR⟩ : ∃ R, roundT n d k m mode = R := ⟨_, rfl⟩
  rw [hR] at h c1
  obtain ⟨K, M, r, zr, zd, g, rfl, rfl, hM4, hr, iR, iD, hrK, hg, b1, b2, b3, b4, b5, m1, m6, hRR⟩ := near_facts hR h
  clear hR
  have c2 := fun W => round_tot R.1 R.2.1 R.2.2.1 M mode W
  rw [hRR] at c2
  clear hRR
  obtain ⟨rn, rd, rk, re⟩ := R
  simp only at h hr iR c1 c2
  subst hr
  subst h
  have c3 := fun W => sub_tot rn rd r n d K W
  have hmx : max r K = K := by omega
  have hK4 : K ≤ 400 := by obtain ⟨_, _, _, h4, _⟩ := of_decide_eq_true iD.1; omega
  rw [subT_is iR iD, hmx, Nat.sub_self, Int.pow_zero, Int.mul_one, hg] at c3
  have hU : Is false ⟨#[49]⟩ 0 1 := ⟨by decide +kernel, by decide +kernel⟩
  have hUM : Is false ⟨#[49]⟩ M 1 := ⟨right_yes (by decide) (by decide) (by omega) (by omega) (by decide +kernel) (of_decide_eq_true hU.1).2.2.2.2.2, hU.2⟩
  have c4 := fun W => of_one W
  have c5 := fun W => shift_down false ⟨#[49]⟩ 0 (-(M : Int)) W hU.1 (by omega) (by omega) (by omega)
  have e5 : madeR false (dval ⟨#[49]⟩) (((0 : Nat) : Int) - -(M : Int)) = (false, ⟨#[49]⟩, (M : Int), 0) := by
    rw [show (((0 : Nat) : Int)) - -(M : Int) = M by omega]
    have e : madeR false (dval ⟨#[49]⟩) (M : Int) = if 400 < (digs 1).size ∨ 400 < (M : Int) then (false, ⟨#[]⟩, 0, 3) else (false, digs 1, (M : Int), 0) := rfl
    have e1 : digs 1 = ⟨#[49]⟩ := by decide +kernel
    rw [e, e1, if_neg]
    intro g
    rcases g with g | g
    · exact absurd g (by decide)
    · omega
  rw [e5] at c5
  have c11 := fun W => compare_yes iR.1 iD.1 W
  obtain ⟨lo, hlo⟩ : ∃ lo, cmpD rn rd r n d K = lo := ⟨_, rfl⟩
  rw [hlo] at c11
  rw [cmp_is iR iD, hmx, Nat.sub_self, Int.pow_zero, Int.mul_one] at hlo
  have l5 : mode = 5 → lo ≤ 0 := fun e => by rw [← hlo]; exact cmpZ_le (by have := b4 e; omega)
  have l6 : mode = 6 → 0 ≤ lo := fun e => by rw [← hlo]; exact cmpZ_ge (by have := b5 e; omega)
  have e1 : IntKind.i64.wrap (-(M : Int)) = -(M : Int) := IntWalk.i64_in _ (by omega)
  have hzK : K ≤ M → g = 0 := fun e => by rw [show K - M = 0 by omega, Int.pow_zero] at b1 b2; omega
  have HB1 := Lib.hid b1; have HB2 := Lib.hid b2; have HB3 := Lib.hid b3; have HZK := Lib.hid hzK; have HUM := Lib.hid hUM; have HL5 := Lib.hid l5; have HL6 := Lib.hid l6; have HM1 := Lib.hid m1; have HM6 := Lib.hid m6
  clear b1 b2 b3 b4 b5 hzK hU hUM e5 hlo l5 l6 hg iR iD hmx hrK m1 m6
  have hGe := madeZ_err g K
  go_enter Tryd.func11, Tryd.ntmps11
  go_wp2_with fail
  refine (wakes_any _).mono ?_
  rintro e w1 ⟨rfl, hB1⟩
  have ka := (Blk.new w _ _).on hB1
  have hBw := ((Below.refl w.heap.size w).alloc (Nat.le_refl _) _).trans (hB1.mono (by simp))
  clear hB1
  have ca := ka.cell
  have la := ka.lt
  go_wp2_with fail
  refine (c1 _).mono ?_
  rintro e w2 ⟨rfl, hB⟩
  have ka := ka.on hB
  have hBw := hBw.trans (hB.mono hBw.size)
  clear hB ca la
  have ca := ka.cell
  have la := ka.lt
  go_wp2_with fail
  refine (c2 _).mono ?_
  rintro e w3 ⟨rfl, hB⟩
  have kr := (Blk.new w2 #[Value.bool rn, .string rd, .int .i64 r] 23).on hB
  have ka := (ka.alloc _).on hB
  have hBw := (hBw.alloc hBw.size _).trans (hB.mono (by have := hBw.size; simp; omega))
  clear hB ca la
  generalize hGG : madeZ g (K : Int) = G at *
  have ca := ka.cell
  have la := ka.lt
  have cr := kr.cell
  have lr := kr.lt
  go_wp2_with fail
  refine (c3 _).mono ?_
  rintro e w4 ⟨rfl, hB⟩
  have kag := (Blk.new w3 #[Value.bool rn, .string rd, .int .i64 r] 23).on hB
  have ka := (ka.alloc _).on hB
  have kr := (kr.alloc _).on hB
  have hBw := (hBw.alloc hBw.size _).trans (hB.mono (by have := hBw.size; simp; omega))
  clear hB ca la cr lr
  have ca := ka.cell
  have la := ka.lt
  go_wp2_with fail
  refine (c4 _).mono ?_
  rintro e w5 ⟨rfl, hB⟩
  have oag := ka.lt
  have org := kr.lt
  have oagg := kag.lt
  have kg := (Blk.new w4 #[Value.bool G.1, .string G.2.1, .int .i64 G.2.2.1] 23).on hB
  have ka := (ka.alloc _).on hB
  have kr := (kr.alloc _).on hB
  have kag := (kag.alloc _).on hB
  have hBw := (hBw.alloc hBw.size _).trans (hB.mono (by have := hBw.size; simp; omega))
  clear hB ca la
  go_wp2_with fail
  refine (c5 _).mono ?_
  rintro e w6 ⟨rfl, hB⟩
  have ka := ka.on hB
  have kr := kr.on hB
  have kag := kag.on hB
  have kg := kg.on hB
  have hBw := hBw.trans (hB.mono hBw.size)
  clear hB 
  clear c1 c2 c3 c4 c5
  by_cases hG : G.2.2.2 = 0
  case neg =>
    have cag := kag.cell
    have lag := kag.lt
    have cr := kr.cell
    have lr := kr.lt
    have cg := kg.cell
    have lg := kg.lt
    go_wp2_with fail
    go_ret
    exact ⟨by first | rfl | (simp; done), hBw.alloc hBw.size _⟩
  subst hGG
  obtain ⟨gn, gd, hGv, iG⟩ := madeZ_is hG
  have HSG := Lib.hid (sgn_is iG)
  have c6 := fun W => sign_yes iG.1 W
  rw [hGv] at kg
  simp only at kg
  have HIG := Lib.hid iG
  clear hGv hGe iG
  generalize hsg : sgnN gn (dval gd) = sg at *
  have hz4 : w4.heap.size = w4.heap.size := rfl
  clear hz4
  have cag := kag.cell
  have lag := kag.lt
  have cr := kr.cell
  have lr := kr.lt
  have cg := kg.cell
  have lg := kg.lt
  go_wp2_with fail
  refine (c6 _).mono ?_
  rintro e w7 ⟨rfl, hB⟩
  have oau := ka.lt
  have oru := kr.lt
  have oagu := kag.lt
  have ogu := kg.lt
  have ku := (Blk.new w6 #[Value.bool false, .string ⟨#[49]⟩, .int .i64 M] 23).on hB
  have ka := (ka.alloc _).on hB
  have kr := (kr.alloc _).on hB
  have kag := (kag.alloc _).on hB
  have kg := (kg.alloc _).on hB
  have hBw := (hBw.alloc hBw.size _).trans (hB.mono (by have := hBw.size; simp; omega))
  clear hB cag lag cr lr cg lg
  by_cases hs0 : sg < 0
  case pos =>
    have c7 := fun W => neg_yes HIG.out.1 W
    have cg := kg.cell
    have fg := kg.free
    have lg := kg.lt
    go_wp2_with fail
    refine (c7 _).mono ?_
    rintro e wn ⟨rfl, hB⟩
    have ka := ka.on hB
    have kr := kr.on hB
    have kag := kag.on hB
    have kg := kg.on hB
    have ku := ku.on hB
    have hBw := hBw.trans (hB.mono hBw.size)
    clear hB cg fg lg c7
    have cg := kg.cell
    have fg := kg.free
    go_upto_region 15 with fail
    have ka := ((ka.other w4.heap.size 0 (.bool (turnB gn gd)) (Nat.ne_of_lt oag)).other w4.heap.size 1 (.string gd) (Nat.ne_of_lt oag)).other w4.heap.size 2 (.int .i64 (K : Int)) (Nat.ne_of_lt oag)
    have kr := ((kr.other w4.heap.size 0 (.bool (turnB gn gd)) (Nat.ne_of_lt org)).other w4.heap.size 1 (.string gd) (Nat.ne_of_lt org)).other w4.heap.size 2 (.int .i64 (K : Int)) (Nat.ne_of_lt org)
    have kag := ((kag.other w4.heap.size 0 (.bool (turnB gn gd)) (Nat.ne_of_lt oagg)).other w4.heap.size 1 (.string gd) (Nat.ne_of_lt oagg)).other w4.heap.size 2 (.int .i64 (K : Int)) (Nat.ne_of_lt oagg)
    have kg := ((kg.set 0 (.bool (turnB gn gd))).set 1 (.string gd)).set 2 (.int .i64 (K : Int))
    change Blk _ _ #[Value.bool (turnB gn gd), .string gd, .int .i64 K] at kg
    have ku := ((ku.other w4.heap.size 0 (.bool (turnB gn gd)) (Nat.ne_of_gt ogu)).other w4.heap.size 1 (.string gd) (Nat.ne_of_gt ogu)).other w4.heap.size 2 (.int .i64 (K : Int)) (Nat.ne_of_gt ogu)
    have hBw := ((hBw.setCell (p := ⟨w4.heap.size, 0, none⟩) (Nat.le_of_lt oag) (.bool (turnB gn gd))).setCell (p := ⟨w4.heap.size, 1, none⟩) (Nat.le_of_lt oag) (.string gd)).setCell (p := ⟨w4.heap.size, 2, none⟩) (Nat.le_of_lt oag) (.int .i64 (K : Int))
    clear cg fg
    generalize ((wn.setCell ⟨w4.heap.size, 0, none⟩ (.bool (turnB gn gd))).setCell ⟨w4.heap.size, 1, none⟩ (.string gd)).setCell ⟨w4.heap.size, 2, none⟩ (.int .i64 (K : Int)) = w8 at *
    obtain ⟨a, ha⟩ : ∃ a, -g = a := ⟨_, rfl⟩
    have iA : Is (turnB gn gd) gd K a := by rw [← ha]; exact turn_is HIG.out
    have a0 : 0 ≤ a := by have := HSG.out; omega
    have a1 : a < 10 ^ (K - M) := by have := HB1.out; have := HB2.out; omega
    have az : K ≤ M → a = 0 := fun e => by have := HZK.out e; omega
    have a2 : mode ≤ 2 → 2 * a ≤ 10 ^ (K - M) := fun e => by have := HB3.out (by have := HM1.out; omega); omega
    have c8 := fun W => add_tot (turnB gn gd) gd K (turnB gn gd) gd K W
    have hTT : addT (turnB gn gd) gd K (turnB gn gd) gd K = madeZ (2 * a) K := by rw [addT_is iA iA, show max K K = K by omega, Nat.sub_self, Int.pow_zero, Int.mul_one, show a + a = 2 * a by omega]
    rw [hTT] at c8
    have c9 := fun W => compare_yes iA.1 HUM.out.1 W
    rw [gap_unit iA HUM.out a0 a1] at c9
    have hTe := madeZ_err (2 * a) K
    have c10 : ∃ hv he : Int, (∀ W, Calls Tryd.prog 30 #[.agg #[.bool (madeZ (2 * a) K).1, .string (madeZ (2 * a) K).2.1, .int .i64 (madeZ (2 * a) K).2.2.1], .agg #[.bool false, .string ⟨#[49]⟩, .int .i64 M]] W fun e w' => e = .returned (.tuple #[.int .i64 hv, .int .i64 he]) ∧ Below W.heap.size W w') ∧ ((madeZ (2 * a) K).2.2.2 = 0 → he = 0 ∧ (mode ≤ 2 → hv ≤ 0)) := by
      rcases hTe with e | e
      · obtain ⟨tn, td, et, it⟩ := madeZ_is e
        rw [et]
        exact ⟨_, _, fun W => compare_yes it.1 HUM.out.1 W, fun _ => ⟨rfl, fun e2 => twice_unit it HUM.out (a2 e2) (fun e3 => by have := az e3; omega)⟩⟩
      · rw [e]
        exact ⟨_, _, fun W => compare_no (.inl (by decide +kernel)) W, fun g => by cases g⟩
    obtain ⟨hv, he, c10, hhv⟩ := c10
    have HHV := Lib.hid hhv
    have hT3 : (madeZ (2 * a) K).2.2.2 = 0 ∨ (madeZ (2 * a) K).2.2.2 = 3 := by rcases hTe with e | e; { exact .inl e }; rw [e]; exact .inr rfl
    generalize madeZ (2 * a) K = T at *
    clear hTT hTe hhv iA a0 a1 az a2 ha
    have cg := kg.cell
    have lg := kg.lt
    go_wp2_with fail
    refine (c8 _).mono ?_
    rintro e w9 ⟨rfl, hB⟩
    have ka := ka.on hB
    have kr := kr.on hB
    have kag := kag.on hB
    have kg := kg.on hB
    have ku := ku.on hB
    have hBw := hBw.trans (hB.mono hBw.size)
    clear hB cg lg
    have cg := kg.cell
    have lg := kg.lt
    have cu := ku.cell
    have lu := ku.lt
    go_wp2_with fail
    refine (c9 _).mono ?_
    rintro e w10 ⟨rfl, hB⟩
    have kt := (Blk.new w9 #[Value.bool T.1, .string T.2.1, .int .i64 T.2.2.1] 23).on hB
    have ka := (ka.alloc _).on hB
    have kr := (kr.alloc _).on hB
    have kag := (kag.alloc _).on hB
    have kg := (kg.alloc _).on hB
    have ku := (ku.alloc _).on hB
    have hBw := (hBw.alloc hBw.size _).trans (hB.mono (by have := hBw.size; simp; omega))
    clear hB cg lg cu lu
    have ct := kt.cell
    have lt := kt.lt
    have cu := ku.cell
    have lu := ku.lt
    go_wp2_with fail
    refine (c10 _).mono ?_
    rintro e w11 ⟨rfl, hB⟩
    have ka := ka.on hB
    have kr := kr.on hB
    have kag := kag.on hB
    have kg := kg.on hB
    have ku := ku.on hB
    have kt := kt.on hB
    have hBw := hBw.trans (hB.mono hBw.size)
    clear hB ct lt cu lu
    have cr := kr.cell
    have lr := kr.lt
    have ca := ka.cell
    have la := ka.lt
    go_wp2_with fail
    refine (c11 _).mono ?_
    rintro e w12 ⟨rfl, hB⟩
    have ka := ka.on hB
    have kr := kr.on hB
    have kag := kag.on hB
    have kg := kg.on hB
    have ku := ku.on hB
    have kt := kt.on hB
    have hBw := hBw.trans (hB.mono hBw.size)
    clear hB cr lr ca la
    rcases hT3 with hT | hT
    case inr =>
      have hT0 : ¬ T.2.2.2 = 0 := by omega
      go_wp2_with fail
      go_ret
      exact ⟨by first | rfl | (simp; done) | (simp [hT]; done), hBw⟩
    obtain ⟨rfl, hhv⟩ := HHV.out hT
    have hL5 := HL5.out
    have hL6 := HL6.out
    have hm1 := HM1.out
    have hm6 := HM6.out
    have hcase : (mode ≤ 2 ∧ mode ≠ 5 ∧ mode ≠ 6 ∧ hv ≤ 0) ∨ (2 < mode ∧ mode ≠ 5 ∧ mode ≠ 6) ∨ (2 < mode ∧ mode = 5 ∧ mode ≠ 6 ∧ lo ≤ 0) ∨ (2 < mode ∧ mode ≠ 5 ∧ mode = 6 ∧ 0 ≤ lo) := by
      by_cases g1 : mode ≤ 2
      · exact .inl ⟨g1, by omega, by omega, hhv g1⟩
      by_cases g2 : mode = 5
      · exact .inr (.inr (.inl ⟨by omega, g2, by omega, hL5 g2⟩))
      by_cases g3 : mode = 6
      · exact .inr (.inr (.inr ⟨by omega, by omega, g3, hL6 g3⟩))
      · exact .inr (.inl ⟨by omega, g2, g3⟩)
    clear hL5 hL6 hm1 hm6 hhv HHV
    rcases hcase with ⟨q1, q2, q3, q4⟩ | ⟨q1, q2, q3⟩ | ⟨q1, rfl, q3, q4⟩ | ⟨q1, q2, rfl, q4⟩
    all_goals
      go_wp2_with fail
      go_ret
      exact ⟨by first | rfl | (simp; done) | (simp [*]; done), hBw⟩
  case neg =>
    obtain ⟨a, ha⟩ : ∃ a, g = a := ⟨_, rfl⟩
    have iA : Is gn gd K a := by rw [← ha]; exact HIG.out
    have a0 : 0 ≤ a := by have := HSG.out; omega
    have a1 : a < 10 ^ (K - M) := by have := HB1.out; have := HB2.out; omega
    have az : K ≤ M → a = 0 := fun e => by have := HZK.out e; omega
    have a2 : mode ≤ 2 → 2 * a ≤ 10 ^ (K - M) := fun e => by have := HB3.out (by have := HM1.out; omega); omega
    have c8 := fun W => add_tot gn gd K gn gd K W
    have hTT : addT gn gd K gn gd K = madeZ (2 * a) K := by rw [addT_is iA iA, show max K K = K by omega, Nat.sub_self, Int.pow_zero, Int.mul_one, show a + a = 2 * a by omega]
    rw [hTT] at c8
    have c9 := fun W => compare_yes iA.1 HUM.out.1 W
    rw [gap_unit iA HUM.out a0 a1] at c9
    have hTe := madeZ_err (2 * a) K
    have c10 : ∃ hv he : Int, (∀ W, Calls Tryd.prog 30 #[.agg #[.bool (madeZ (2 * a) K).1, .string (madeZ (2 * a) K).2.1, .int .i64 (madeZ (2 * a) K).2.2.1], .agg #[.bool false, .string ⟨#[49]⟩, .int .i64 M]] W fun e w' => e = .returned (.tuple #[.int .i64 hv, .int .i64 he]) ∧ Below W.heap.size W w') ∧ ((madeZ (2 * a) K).2.2.2 = 0 → he = 0 ∧ (mode ≤ 2 → hv ≤ 0)) := by
      rcases hTe with e | e
      · obtain ⟨tn, td, et, it⟩ := madeZ_is e
        rw [et]
        exact ⟨_, _, fun W => compare_yes it.1 HUM.out.1 W, fun _ => ⟨rfl, fun e2 => twice_unit it HUM.out (a2 e2) (fun e3 => by have := az e3; omega)⟩⟩
      · rw [e]
        exact ⟨_, _, fun W => compare_no (.inl (by decide +kernel)) W, fun g => by cases g⟩
    obtain ⟨hv, he, c10, hhv⟩ := c10
    have HHV := Lib.hid hhv
    have hT3 : (madeZ (2 * a) K).2.2.2 = 0 ∨ (madeZ (2 * a) K).2.2.2 = 3 := by rcases hTe with e | e; { exact .inl e }; rw [e]; exact .inr rfl
    generalize madeZ (2 * a) K = T at *
    clear hTT hTe hhv iA a0 a1 az a2 ha
    have cg := kg.cell
    have lg := kg.lt
    go_wp2_with fail
    refine (c8 _).mono ?_
    rintro e w8 ⟨rfl, hB⟩
    have ka := ka.on hB
    have kr := kr.on hB
    have kag := kag.on hB
    have kg := kg.on hB
    have ku := ku.on hB
    have hBw := hBw.trans (hB.mono hBw.size)
    clear hB cg lg
    have cg := kg.cell
    have lg := kg.lt
    have cu := ku.cell
    have lu := ku.lt
    go_wp2_with fail
    refine (c9 _).mono ?_
    rintro e w9 ⟨rfl, hB⟩
    have kt := (Blk.new w8 #[Value.bool T.1, .string T.2.1, .int .i64 T.2.2.1] 23).on hB
    have ka := (ka.alloc _).on hB
    have kr := (kr.alloc _).on hB
    have kag := (kag.alloc _).on hB
    have kg := (kg.alloc _).on hB
    have ku := (ku.alloc _).on hB
    have hBw := (hBw.alloc hBw.size _).trans (hB.mono (by have := hBw.size; simp; omega))
    clear hB cg lg cu lu
    have ct := kt.cell
    have lt := kt.lt
    have cu := ku.cell
    have lu := ku.lt
    go_wp2_with fail
    refine (c10 _).mono ?_
    rintro e w10 ⟨rfl, hB⟩
    have ka := ka.on hB
    have kr := kr.on hB
    have kag := kag.on hB
    have kg := kg.on hB
    have ku := ku.on hB
    have kt := kt.on hB
    have hBw := hBw.trans (hB.mono hBw.size)
    clear hB ct lt cu lu
    have cr := kr.cell
    have lr := kr.lt
    have ca := ka.cell
    have la := ka.lt
    go_wp2_with fail
    refine (c11 _).mono ?_
    rintro e w11 ⟨rfl, hB⟩
    have ka := ka.on hB
    have kr := kr.on hB
    have kag := kag.on hB
    have kg := kg.on hB
    have ku := ku.on hB
    have kt := kt.on hB
    have hBw := hBw.trans (hB.mono hBw.size)
    clear hB cr lr ca la
    rcases hT3 with hT | hT
    case inr =>
      have hT0 : ¬ T.2.2.2 = 0 := by omega
      go_wp2_with fail
      go_ret
      exact ⟨by first | rfl | (simp; done) | (simp [hT]; done), hBw⟩
    obtain ⟨rfl, hhv⟩ := HHV.out hT
    have hL5 := HL5.out
    have hL6 := HL6.out
    have hm1 := HM1.out
    have hm6 := HM6.out
    have hcase : (mode ≤ 2 ∧ mode ≠ 5 ∧ mode ≠ 6 ∧ hv ≤ 0) ∨ (2 < mode ∧ mode ≠ 5 ∧ mode ≠ 6) ∨ (2 < mode ∧ mode = 5 ∧ mode ≠ 6 ∧ lo ≤ 0) ∨ (2 < mode ∧ mode ≠ 5 ∧ mode = 6 ∧ 0 ≤ lo) := by
      by_cases g1 : mode ≤ 2
      · exact .inl ⟨g1, by omega, by omega, hhv g1⟩
      by_cases g2 : mode = 5
      · exact .inr (.inr (.inl ⟨by omega, g2, by omega, hL5 g2⟩))
      by_cases g3 : mode = 6
      · exact .inr (.inr (.inr ⟨by omega, by omega, g3, hL6 g3⟩))
      · exact .inr (.inl ⟨by omega, g2, g3⟩)
    clear hL5 hL6 hm1 hm6 hhv HHV
    rcases hcase with ⟨q1, q2, q3, q4⟩ | ⟨q1, q2, q3⟩ | ⟨q1, rfl, q3, q4⟩ | ⟨q1, q2, rfl, q4⟩
    all_goals
      go_wp2_with fail
      go_ret
      exact ⟨by first | rfl | (simp; done) | (simp [*]; done), hBw⟩

theorem decNear_walk (n : Bool) (d : ByteArray) (k m mode : Int) (w : World) (_ : -9223372036854775808 ≤ m) (_ : m ≤ 9223372036854775807) (_ : -9223372036854775808 ≤ mode) (_ : mode ≤ 9223372036854775807) :
    Calls Tryd.prog 11 #[.agg #[.bool n, .string d, .int .i64 k], .int .i64 m, .int .i64 mode] w fun e w' => e = .returned (.bool true) ∧ Below w.heap.size w w' := by
  by_cases h : (roundT n d k m mode).2.2.2 = 0
  · exact near_ok h w
  · exact near_bad h w
end Go.Proofs.YtgccppilhbannaaDoor
