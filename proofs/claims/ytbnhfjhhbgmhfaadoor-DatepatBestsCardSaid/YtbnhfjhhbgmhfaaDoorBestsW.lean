/-
  The walk of DatepatBests.
-/
import Derived.Test.YtbnhfjhhbgmhfaaDoorDpC
import Derived.Deep.Cut
namespace Go.Proofs.YtbnhfjhhbgmhfaaDoor
open Go.RowKit Go.PlainAid

set_option maxRecDepth 100000 in
set_option maxHeartbeats 4000000 in
theorem datepatBests_walk (a : ByteArray) (v : Value) (L : List ByteArray) (w : World) (hv : StrAt w v L) (hL : ∀ s ∈ L, s.size ≤ 1000000000000000) (hsa : a.size ≤ 140737488351232) (hG : Gl w) :
    Calls Tryd.prog 10 #[.string a, v] w fun e w' => e = .returned (.bool true) ∧ Below w.heap.size w w' := by
  have HV := Lib.hid hv
  obtain ⟨va, vcap, rfl, _, hlen, hc⟩ := hv
  by_cases h200 : 200 < L.length
  · have hI : (200 : Int) < L.length := by omega
    go_enter Tryd.func10, Tryd.ntmps10
    go_wp2_with fail
    refine (wakes_any _ hG).mono ?_
    rintro e w0 ⟨rfl, hB0⟩
    go_wp2_with fail
    go_ret
    exact ⟨rfl, hB0⟩
  · have hI : ¬ (200 : Int) < L.length := by omega
    have HC := Lib.hid hc
    have HL := Lib.hid hL
    have hka := skel_sk a
    have hqa := fun W => rSkel_any a W (by omega)
    have hbest := fun u W h => best_any a u L W (by omega) h hL
    have hr : dpBest a L = if (skel a).2.1 = 0 then (if (bestN (skel a).1 L L.length).1 < 0 then (0, 0, 4) else ((bestN (skel a).1 L L.length).1, (bestN (skel a).1 L L.length).2, 0)) else (0, 0, 272) := rfl
    generalize dpBest a L = R at *
    generalize skel a = ra at *
    obtain ⟨LA, EA, AA⟩ := ra
    obtain ⟨R1, R2, R3⟩ := R
    simp only at hr hka hbest
    have HR := Lib.hid hr
    have HKA := Lib.hid hka
    have hla := hka.1
    have HBE := Lib.hid hbest
    clear hc hL hr hka hbest
    go_enter Tryd.func10, Tryd.ntmps10
    go_wp2_with fail
    refine (wakes_any _ hG).mono ?_
    rintro e w0 ⟨rfl, hB0⟩
    have hv0 := HV.out.later hB0
    go_wp2_with (at_builtin; go_must (refine wpList_copy_str rfl _ _ rfl _ rfl rfl _ L rfl hv0 (by omega) hB0 hB0.size ?_); intro v' w1 hv1 hB1)
    refine (HBE.out _ _ hv1).mono ?_
    rintro e w2 ⟨rfl, hB2⟩
    have hB3 := hB1.trans (hB2.mono hB1.size)
    clear hv0 hv1 hB0 hB1 hB2
    go_wp2_with fail
    refine (hqa _).mono ?_
    rintro e w3 ⟨⟨u, rfl, hrow⟩, hB4⟩
    have hat := hrow.at (by show LA.length ≤ _; omega)
    obtain ⟨xa, xc, rfl⟩ := hrow.form
    have hB5 := (hB3.trans (hB4.mono hB3.size)).alloc (Nat.le_trans hB3.size hB4.size) (.cells #[.int .i64 EA, .int .i64 AA] 26)
    have hat5 := hat.later ((Below.refl w3.heap.size w3).alloc (Nat.le_refl _) (.cells #[.int .i64 EA, .int .i64 AA] 26))
    clear hqa hrow hat hB3 hB4
    by_cases ha : EA = 0
    · have haI : (EA != 0) = false := by simp [ha]
      have hr2 := HR.out
      rw [if_pos ha] at hr2
      have HR2 := Lib.hid hr2
      clear hr2 ha HR
      go_wp2_with fail
      generalize w3.alloc (.cells #[.int .i64 EA, .int .i64 AA] 26) = w4 at *
      have hz5 := hB5.size
      go_loopg [10, 11, 51] L.length (fun g s10 s11 s51 wr => ∃ i : Nat, s51 = .int .i64 (i : Int) ∧ i + g = L.length ∧ s10 = .int .i64 (bestN LA L i).1 ∧ s11 = .int .i64 (bestN LA L i).2 ∧ Below w4.heap.size w4 wr)
      case atStart => exact ⟨0, rfl, by omega, rfl, rfl, Below.refl _ _⟩
      case round =>
        obtain ⟨i, rfl, hg, rfl, rfl, hB⟩ := hrel
        have hzB := hB.size
        by_cases hi : i < L.length
        · have hnx := bestN_next LA L i hi
          have HNX := Lib.hid hnx
          obtain ⟨g, off, rfl, hgw, h0⟩ := HC.out i hi
          have hsz := HL.out L[i] (List.getElem_mem hi)
          generalize L[i] = s at *
          have hCr := hB5.trans (hB.mono hz5)
          have d0 := (hCr.cell (p := ⟨g, _, none⟩) hgw).trans h0
          have hsk := skel_sk s
          have hqs := fun W => rSkel_any s W hsz
          have hap := fun vb W h1 h2 => rApart_any (.slice xa LA.length xc) vb LA (skel s).1 W h1 h2 HKA.out hsk
          have HAP := Lib.hid hap
          have hst : ∀ p, stepB LA s i p = if (skel s).2.1 = 0 ∧ (p.1 < 0 ∨ apartL LA (skel s).1 < p.2) then ((i : Int), apartL LA (skel s).1) else p := fun p => rfl
          rw [hst] at HNX
          generalize skel s = rs at *
          obtain ⟨LS, ES, AS⟩ := rs
          have hls := hsk.1
          simp only at hls HNX
          have hiI : (i : Int) < L.length := by omega
          clear hnx h0 hap hsk hst hCr
          generalize bestN LA L i = p at *
          obtain ⟨pa, pb⟩ := p
          simp only at HNX
          go_wp2_with fail
          refine (hqs _).mono ?_
          rintro e w5 ⟨⟨u, rfl, hrow⟩, hB6⟩
          have hats := hrow.at (by show LS.length ≤ _; omega)
          obtain ⟨sa, sc, rfl⟩ := hrow.form
          have hB7 := (hB.trans (hB6.mono hzB)).alloc (Nat.le_trans hzB hB6.size) (.cells #[.int .i64 ES, .int .i64 AS] 26)
          have hA := (Below.refl w5.heap.size w5).alloc (Nat.le_refl _) (.cells #[.int .i64 ES, .int .i64 AS] 26)
          have sp := Blk.new w5 #[.int .i64 ES, .int .i64 AS] 26
          have hats4 := hats.later hA
          have hat4 := hat5.later hB7
          clear hrow hats hqs hA
          go_wp2_with fail
          refine (HAP.out _ _ hat4 hats4).mono ?_
          rintro e w6 ⟨rfl, hB8⟩
          have sp6 := sp.on hB8
          have c0 := sp6.cell 0
          simp at c0
          have hB9 := hB7.trans (hB8.mono hB7.size)
          generalize apartL LA LS = D at *
          by_cases hes : ES = 0
          · have heI : (ES == 0) = true := by simp [hes]
            by_cases hpa : pa < 0
            · have hnew : bestN LA L (i + 1) = ((i : Int), D) := by rw [HNX.out, if_pos ⟨hes, .inl hpa⟩]
              have HN := Lib.hid hnew
              clear hnew hes
              go_wp2_with fail
              go_roundg (gk - 1)
              case rel => exact ⟨i + 1, by push_cast; rfl, by omega, by rw [HN.out], by rw [HN.out], hB9⟩
              case measure => omega
            · by_cases hpb : D < pb
              · have hnew : bestN LA L (i + 1) = ((i : Int), D) := by rw [HNX.out, if_pos ⟨hes, .inr hpb⟩]
                have HN := Lib.hid hnew
                clear hnew hes
                go_wp2_with fail
                go_roundg (gk - 1)
                case rel => exact ⟨i + 1, by push_cast; rfl, by omega, by rw [HN.out], by rw [HN.out], hB9⟩
                case measure => omega
              · have hnew : bestN LA L (i + 1) = (pa, pb) := by rw [HNX.out, if_neg (by omega)]
                have HN := Lib.hid hnew
                clear hnew hes
                go_wp2_with fail
                go_roundg (gk - 1)
                case rel => exact ⟨i + 1, by push_cast; rfl, by omega, by rw [HN.out], by rw [HN.out], hB9⟩
                case measure => omega
          · have heI : (ES == 0) = false := by simpa using hes
            have hnew : bestN LA L (i + 1) = (pa, pb) := by rw [HNX.out, if_neg (fun h => hes h.1)]
            have HN := Lib.hid hnew
            clear hnew hes
            go_wp2_with fail
            go_roundg (gk - 1)
            case rel => exact ⟨i + 1, by push_cast; rfl, by omega, by rw [HN.out], by rw [HN.out], hB9⟩
            case measure => omega
        · have hie : i = L.length := by omega
          subst hie
          have hiI : ¬ (L.length : Int) < L.length := by omega
          have hCr := hB5.trans (hB.mono hz5)
          generalize bestN LA L L.length = p at *
          obtain ⟨pa, pb⟩ := p
          simp only at HR2
          by_cases hneg : pa < 0
          · have hr3 := HR2.out
            rw [if_pos hneg] at hr3
            injection hr3 with e1 e2
            injection e2 with e2 e3
            subst e1 e2 e3
            go_wp2_with fail
            go_ret
            exact ⟨rfl, hCr⟩
          · have hr3 := HR2.out
            rw [if_neg hneg] at hr3
            injection hr3 with e1 e2
            injection e2 with e2 e3
            subst e1 e2 e3
            go_wp2_with fail
            go_ret
            exact ⟨rfl, hCr⟩
    · have haI : (EA != 0) = true := by simpa using ha
      have hr2 := HR.out
      rw [if_neg ha] at hr2
      injection hr2 with e1 e2
      injection e2 with e2 e3
      subst e1 e2 e3
      clear ha
      go_wp2_with fail
      go_ret
      exact ⟨rfl, hB5⟩
end Go.Proofs.YtbnhfjhhbgmhfaaDoor
