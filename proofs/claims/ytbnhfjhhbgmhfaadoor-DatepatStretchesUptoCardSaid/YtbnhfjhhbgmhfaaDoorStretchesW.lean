/-
  The walk of DatepatStretches.
-/
import Derived.Test.YtbnhfjhhbgmhfaaDoorStrR
import Derived.Test.YtbnhfjhhbgmhfaaDoorDpAr
namespace Go.Proofs.YtbnhfjhhbgmhfaaDoor
open Go.RowKit Go.PlainAid

set_option maxRecDepth 100000 in
set_option maxHeartbeats 4000000 in
theorem datepatStretches_walk (v : Value) (l : List PF) (s : ByteArray) (w : World) (hv : PFArg w v l) (hsz : PFsz l) (hs : s.size ≤ 1048576) (hG : Gl w) :
    Calls Tryd.prog 6 #[v, .string s] w fun e w' => e = .returned (.bool true) ∧ Below w.heap.size w w' := by
  have HVL : Hid (∀ W, Below w.heap.size w W → PFArg W v l) := Lib.hid fun W h => hv.later h
  obtain ⟨_, va, vcap, rfl, _⟩ := hv
  have hlm := hsz.1
  by_cases h500 : 500 < l.length
  · have hI : (500 : Int) < l.length := by omega
    go_enter Tryd.func6, Tryd.ntmps6
    go_wp2_with fail
    refine (wakes_any _ hG).mono ?_
    rintro e w0 ⟨rfl, hB0⟩
    go_wp2_with fail
    go_ret
    exact ⟨rfl, hB0⟩
  · have hI : ¬ (500 : Int) < l.length := by omega
    have HST := Lib.hid (fun u W h g => stretch_any u l s W h hsz (by omega) g)
    have HSK := Lib.hid (fun W => rSkel_any s W (by omega))
    have HMY := Lib.hid (fun W h => rMay_any (.slice va l.length vcap) l W h hsz.ok)
    have hsk := skel_sk s
    have hd : dStr l s = if (dpPrint l).2 ≠ 0 then ([], (dpPrint l).2) else if (skel s).2.1 ≠ 0 then ([], 272) else (stretchR l (skel s).1, 0) := rfl
    have hxl : (skel s).1.length ≤ 1000000000 := by have := hsk.1; omega
    generalize skel s = r at *
    obtain ⟨x, E, A⟩ := r
    simp only at hd hxl hsk
    cases hm : mayB l with
    | false =>
      have hp2 : dpPrint l = (⟨#[]⟩, 2) := by unfold dpPrint; rw [hm]; rfl
      rw [hp2, if_pos (by decide)] at hd
      rw [hd] at HST
      rw [hm] at HMY
      clear hp2 hd hm
      go_enter Tryd.func6, Tryd.ntmps6
      go_wp2_with fail
      refine (wakes_any _ hG).mono ?_
      rintro e w0 ⟨rfl, hB0⟩
      have hv0 := HVL.out _ hB0
      go_wp2_with (at_builtin; go_must (refine wpList_copy_pf rfl _ _ rfl _ rfl rfl _ l rfl hv0 (by omega) hB0 hB0.size ?_); intro v' w1 hr1 hB1)
      have g1 : GB w w1 := ⟨hG.later hB1, hB1⟩
      refine (HST.out _ _ (hr1.arg (by omega)) g1.1).mono ?_
      rintro e w2 ⟨u, rfl, hrow, hB2⟩
      obtain ⟨ua, uc, rfl⟩ := hrow.form
      have g2 := g1.on hB2
      clear hv0 hB0 hB1 hr1 g1
      go_wp2_with fail
      refine (HSK.out _).mono ?_
      rintro e w3 ⟨⟨x, rfl, hrx⟩, hB3⟩
      obtain ⟨xa, xc, rfl⟩ := hrx.form
      have g3 := g2.on hB3
      have sp := Blk.new w3 #[.int .i64 E, .int .i64 A] 26
      have g4 := g3.alloc (.cells #[.int .i64 E, .int .i64 A] 26)
      have hv4 := HVL.out _ g4.2
      clear hB2 hB3 hrow hrx
      go_wp2_with fail
      refine (HMY.out _ hv4.1).mono ?_
      rintro e w5 ⟨rfl, hB5⟩
      have g5 := g4.on hB5
      go_wp2_with fail
      go_ret
      exact ⟨by simp, g5.2⟩
    | true =>
      have hin := hsz.fin hm
      have HPP := Lib.hid (fun u W h => rPrint_any u l W h hin)
      rw [hm] at HMY
      by_cases h4 : 4096 < (printT l).size
      · have hp2 : dpPrint l = (⟨#[]⟩, 3) := by unfold dpPrint; rw [if_pos hm, if_pos h4]
        rw [hp2, if_pos (by decide)] at hd
        rw [hd] at HST
        have h4I : (4096 : Int) < (printT l).size := by omega
        generalize printT l = P at *
        clear hp2 hd hm hin h4
        go_enter Tryd.func6, Tryd.ntmps6
        go_wp2_with fail
        refine (wakes_any _ hG).mono ?_
        rintro e w0 ⟨rfl, hB0⟩
        have hv0 := HVL.out _ hB0
        go_wp2_with (at_builtin; go_must (refine wpList_copy_pf rfl _ _ rfl _ rfl rfl _ l rfl hv0 (by omega) hB0 hB0.size ?_); intro v' w1 hr1 hB1)
        have g1 : GB w w1 := ⟨hG.later hB1, hB1⟩
        refine (HST.out _ _ (hr1.arg (by omega)) g1.1).mono ?_
        rintro e w2 ⟨u, rfl, hrow, hB2⟩
        obtain ⟨ua, uc, rfl⟩ := hrow.form
        have g2 := g1.on hB2
        clear hv0 hB0 hB1 hr1 g1
        go_wp2_with fail
        refine (HSK.out _).mono ?_
        rintro e w3 ⟨⟨x, rfl, hrx⟩, hB3⟩
        obtain ⟨xa, xc, rfl⟩ := hrx.form
        have g3 := g2.on hB3
        have sp := Blk.new w3 #[.int .i64 E, .int .i64 A] 26
        have g4 := g3.alloc (.cells #[.int .i64 E, .int .i64 A] 26)
        have hv4 := HVL.out _ g4.2
        clear hB2 hB3 hrow hrx
        go_wp2_with fail
        refine (HMY.out _ hv4.1).mono ?_
        rintro e w5 ⟨rfl, hB5⟩
        have g5 := g4.on hB5
        have sp := sp.on hB5
        have hv5 := HVL.out _ g5.2
        go_wp2_with fail
        refine (HPP.out _ _ hv5.1).mono ?_
        rintro e w6 ⟨rfl, hB6⟩
        have g6 := g5.on hB6
        go_wp2_with fail
        go_ret
        exact ⟨by simp, g6.2⟩
      · have hp2 : dpPrint l = (printT l, 0) := by unfold dpPrint; rw [if_pos hm, if_neg h4]
        rw [hp2, if_neg (fun g => g rfl)] at hd
        have h4I : ¬ (4096 : Int) < (printT l).size := by omega
        generalize printT l = P at *
        by_cases hE : E = 0
        · rw [if_neg (by rw [hE]; decide)] at hd
          rw [hd] at HST
          subst hE
          have HRS := Lib.hid (fun u z W h g => rStretch_any u z l x W h g hin hsk.ok)
          have hdl : (stretchR l x).length ≤ 1000000000 := by rw [stretch_len]; omega
          have hdl2 := stretch_len l x
          have HDL := Lib.hid hdl2
          clear hdl2
          generalize stretchR l x = D at *
          clear hp2 hd hm hin h4 hsk
          go_enter Tryd.func6, Tryd.ntmps6
          go_wp2_with fail
          refine (wakes_any _ hG).mono ?_
          rintro e w0 ⟨rfl, hB0⟩
          have hv0 := HVL.out _ hB0
          go_wp2_with (at_builtin; go_must (refine wpList_copy_pf rfl _ _ rfl _ rfl rfl _ l rfl hv0 (by omega) hB0 hB0.size ?_); intro v' w1 hr1 hB1)
          have g1 : GB w w1 := ⟨hG.later hB1, hB1⟩
          refine (HST.out _ _ (hr1.arg (by omega)) g1.1).mono ?_
          rintro e w2 ⟨u, rfl, hrow, hB2⟩
          obtain ⟨ua, uc, rfl⟩ := hrow.form
          have g2 := g1.on hB2
          clear hv0 hB0 hB1 hr1 g1
          go_wp2_with fail
          refine (HSK.out _).mono ?_
          rintro e w3 ⟨⟨x, rfl, hrx⟩, hB3⟩
          obtain ⟨xa, xc, rfl⟩ := hrx.form
          have g3 := g2.on hB3
          have sp := Blk.new w3 #[.int .i64 0, .int .i64 A] 26
          have g4 := g3.alloc (.cells #[.int .i64 0, .int .i64 A] 26)
          have hv4 := HVL.out _ g4.2
          have hra := ((hrow.later hB3).later ((Below.refl w3.heap.size w3).alloc (Nat.le_refl _) (.cells #[.int .i64 0, .int .i64 A] 26))).at hdl
          have hxa := (hrx.later ((Below.refl w3.heap.size w3).alloc (Nat.le_refl _) (.cells #[.int .i64 0, .int .i64 A] 26))).at hxl
          clear hB2 hB3 hrow hrx
          go_wp2_with fail
          refine (HMY.out _ hv4.1).mono ?_
          rintro e w5 ⟨rfl, hB5⟩
          have g5 := g4.on hB5
          have sp := sp.on hB5
          have hv5 := HVL.out _ g5.2
          have hra := hra.later hB5
          have hxa := hxa.later hB5
          go_wp2_with fail
          refine (HPP.out _ _ hv5.1).mono ?_
          rintro e w6 ⟨rfl, hB6⟩
          have g6 := g5.on hB6
          have sp := sp.on hB6
          have hra := hra.later hB6
          have hxa := hxa.later hB6
          have hv6 := HVL.out _ g6.2
          have c0 := sp.cell 0
          simp at c0
          clear hB5 hB6 hv4 hv5 g2 g3 g4 g5
          go_wp2_with fail
          refine (HRS.out _ _ _ hv6.1 hxa).mono ?_
          rintro e w7 ⟨z, rfl, hrz, hB7⟩
          have g7 := g6.on hB7
          have hza := hrz.at hdl
          have hra := hra.later hB7
          obtain ⟨za, zc, rfl⟩ := hrz.form
          go_wp2_with fail
          refine (same_yes _ _ D _ hra hza).mono ?_
          rintro e w8 ⟨rfl, hB8⟩
          have g8 := g7.on hB8
          go_wp2_with fail
          go_ret
          exact ⟨by simp, g8.2⟩
        · rw [if_pos hE] at hd
          rw [hd] at HST
          have hEb : (E != 0) = true := by simpa using hE
          clear hp2 hd hm hin h4 hE
          go_enter Tryd.func6, Tryd.ntmps6
          go_wp2_with fail
          refine (wakes_any _ hG).mono ?_
          rintro e w0 ⟨rfl, hB0⟩
          have hv0 := HVL.out _ hB0
          go_wp2_with (at_builtin; go_must (refine wpList_copy_pf rfl _ _ rfl _ rfl rfl _ l rfl hv0 (by omega) hB0 hB0.size ?_); intro v' w1 hr1 hB1)
          have g1 : GB w w1 := ⟨hG.later hB1, hB1⟩
          refine (HST.out _ _ (hr1.arg (by omega)) g1.1).mono ?_
          rintro e w2 ⟨u, rfl, hrow, hB2⟩
          obtain ⟨ua, uc, rfl⟩ := hrow.form
          have g2 := g1.on hB2
          clear hv0 hB0 hB1 hr1 g1
          go_wp2_with fail
          refine (HSK.out _).mono ?_
          rintro e w3 ⟨⟨x, rfl, hrx⟩, hB3⟩
          obtain ⟨xa, xc, rfl⟩ := hrx.form
          have g3 := g2.on hB3
          have sp := Blk.new w3 #[.int .i64 E, .int .i64 A] 26
          have g4 := g3.alloc (.cells #[.int .i64 E, .int .i64 A] 26)
          have hv4 := HVL.out _ g4.2
          clear hB2 hB3 hrow hrx
          go_wp2_with fail
          refine (HMY.out _ hv4.1).mono ?_
          rintro e w5 ⟨rfl, hB5⟩
          have g5 := g4.on hB5
          have sp := sp.on hB5
          have hv5 := HVL.out _ g5.2
          go_wp2_with fail
          refine (HPP.out _ _ hv5.1).mono ?_
          rintro e w6 ⟨rfl, hB6⟩
          have g6 := g5.on hB6
          have sp := sp.on hB6
          have c0 := sp.cell 0
          simp at c0
          go_wp2_with fail
          go_ret
          exact ⟨by simp, g6.2⟩
end Go.Proofs.YtbnhfjhhbgmhfaaDoor
