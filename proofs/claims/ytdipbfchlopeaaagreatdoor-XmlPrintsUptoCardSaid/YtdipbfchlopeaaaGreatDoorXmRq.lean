/-
  The reference's Print: the walk.
-/
import Derived.Test.YtdipbfchlopeaaaGreatDoorXmRp
namespace Go.Proofs.YtdipbfchlopeaaaGreatDoor
open Go.RowKit Go.PlainAid

theorem rtA_len : ∀ l : List At2, (l.flatMap rtA).length ≤ 6 * wtL wtAt l
  | [] => Nat.zero_le _
  | a :: l => by
    have h1 := rtA_len l
    have h2 := esc_len6 a.2
    have h3 := size_list a.1
    have h4 := size_list (escB a.2)
    rw [List.flatMap_cons, List.length_append]
    simp only [rtA, List.length_append, List.length_cons, List.length_nil, wtL, wtAt]
    omega
theorem rtL_take {l : List Tk} {i : Nat} (h : i < l.length) : rtL (l.take (i + 1)) = rtL (l.take i) ++ rtK l[i] := by
  unfold rtL
  rw [take_snoc h, List.flatMap_append]
  simp
theorem rtL_le (l : List Tk) (i : Nat) : (rtL (l.take i)).length ≤ (rtL l).length := by
  have h : rtL l = rtL (l.take i) ++ rtL (l.drop i) := by
    unfold rtL
    rw [← List.flatMap_append, List.take_append_drop]
  rw [h, List.length_append]
  omega
section
set_option maxRecDepth 100000
set_option maxHeartbeats 8000000
theorem rPrint_any (w : World) (v : Value) (l : List Tk) (h : WIn w v l) (hsz : ∀ t ∈ l, t.name.size ≤ 1048576 ∧ wtL wtAt t.attrs ≤ 1048576 ∧ t.text.size ≤ 1048576) (hln : l.length ≤ 1048576) (htot : (rtL l).length ≤ 10000000000000) (E : Int)
    (hck : Calls Tryz.prog 38 #[v] w fun e w' => e = .returned (.int .i64 E) ∧ Below w.heap.size w w') :
    Calls Tryz.prog 16 #[v] w fun e w' => e = .returned (.tuple #[.string (rtB E l), .int .i64 (rtE E l)]) ∧ Below w.heap.size w w' := by
  obtain ⟨ms, hr, hm, ht⟩ := h
  obtain ⟨n, hn⟩ : ∃ n, l.length = n := ⟨_, rfl⟩
  rw [hn] at hm hln
  obtain ⟨aa, ca, rfl, hca⟩ := hr
  rw [hm] at hck
  have HM := Lib.hid hm; have HN := Lib.hid hn; have HT := Lib.hid ht; have HCA := Lib.hid hca; have HSZ := Lib.hid hsz; have HTOT := Lib.hid htot; have HCK := Lib.hid hck
  rw [hm]
  clear hm hn ht hca hsz htot hck
  by_cases hE : E = 0
  · subst hE
    go_enter Tryz.func16, Tryz.ntmps16
    go_upto_region 1 with fail
    go_cut [4] (fun s4 wx => s4 = .int .i64 0 ∧ Below w.heap.size w wx)
    case first =>
      go_wp2_with fail
      refine HCK.out.mono ?_
      rintro e w1 ⟨rfl, hB1⟩
      go_wp2_with fail
      go_meet
      case rel => exact ⟨rfl, hB1⟩
    case rest =>
    obtain ⟨rfl, hB0⟩ := hcut
    clear HCK
    obtain ⟨wb, hwb⟩ : ∃ b, wc.heap.size = b := ⟨_, rfl⟩
    obtain ⟨w1, hw1⟩ : ∃ x, wc.alloc (.cells #[.pointer none, .slice none 0 0] 80) = x := ⟨_, rfl⟩
    have hS1 : Sb (wb + 1) wb [] w1 := by rw [← hw1, ← hwb]; exact sb_new
    have hB1 : Below w.heap.size w w1 := by rw [← hw1]; exact hB0.alloc hB0.size _
    have hwl : w.heap.size ≤ wb := by rw [← hwb]; exact hB0.size
    have HW1 := Lib.hid hw1; have HB1 := Lib.hid hB1; have HS1 := Lib.hid hS1; have HWB := Lib.hid hwb; have HWL := Lib.hid hwl
    clear hw1 hB1 hS1 hwb hwl hB0
    go_upto_region 4 with fail
    go_cut [5] (fun s5 wx => s5 = .pointer (some ⟨wb, 0, none⟩) ∧ wx = w1)
    case first =>
      go_wp2_with fail
      go_meet
      case rel => exact ⟨by rw [HWB.out], HW1.out⟩
    case rest =>
    obtain ⟨rfl, rfl⟩ := hcut
    clear HW1
    go_wp2_with fail
    go_loopg [17] (n + 1) (fun f s17 wx => ∃ (i : Nat), s17 = .int .i64 (i : Int) ∧ f + i = n + 1 ∧ i ≤ n ∧ Sb (wb + 1) wb (rtL (l.take i)) wx ∧ KeepW (wb + 1) wb wc wx)
    case atStart => exact ⟨0, rfl, rfl, Nat.zero_le _, HS1.out, KeepW.refl _ _ _⟩
    case round =>
      clear HS1
      obtain ⟨i, rfl, hg, hi, hS, hK⟩ := hrel
      have HG := Lib.hid hg
      have hi0 : (0 : Int) ≤ i := by omega
      have hBW : Below w.heap.size w wr := HB1.out.trans (hK.x.below (by have := HWL.out; omega) HWL.out)
      have htl := rtL_le l i
      have htl2 := HTOT.out
      by_cases hlt : i < n
      · have f1 : IntKind.i64.wrap ((i : Int) + 1) = (i : Int) + 1 := IntWalk.i64_in _ (by omega)
        have hiI : (i : Int) < n := by omega
        have hil : i < l.length := by have := HN.out; omega
        have him : i < ms.length := by have := HM.out; omega
        obtain ⟨g1, o1, rfl, hg1, hc1⟩ := HCA.out i him
        have t1 := HT.out i him hil
        have htk := rtL_take hil
        have hsz := HSZ.out l[i] (List.getElem_mem _)
        obtain ⟨m, hm⟩ : ∃ m, ms[i] = m := ⟨_, rfl⟩
        obtain ⟨t, htt⟩ : ∃ t, l[i] = t := ⟨_, rfl⟩
        rw [hm] at hc1 t1
        rw [htt] at t1 htk hsz
        obtain ⟨kd, nm, ta, tn, tc, tx, at_⟩ := m
        obtain ⟨e1, e2, e3, e4⟩ := t1
        simp only at e1 e2 e3 e4
        subst e1 e2 e3
        have c0 : wr.cell? ⟨g1, o1 + i * 5, none⟩ = some (.int .i64 t.kind) := cell_kept (hc1 0 (by decide)) hBW
        have c1 : wr.cell? ⟨g1, o1 + i * 5 + 1, none⟩ = some (.string t.name) := cell_kept (hc1 1 (by decide)) hBW
        have c2 : wr.cell? ⟨g1, o1 + i * 5 + 2, none⟩ = some (.slice ta tn tc) := cell_kept (hc1 2 (by decide)) hBW
        have c3 : wr.cell? ⟨g1, o1 + i * 5 + 3, none⟩ = some (.string t.text) := cell_kept (hc1 3 (by decide)) hBW
        have c4 : wr.cell? ⟨g1, o1 + i * 5 + 4, none⟩ = some (.int .i64 at_) := cell_kept (hc1 4 (by decide)) hBW
        have hAL : Below wr.heap.size wr (wr.alloc (.cells #[.int .i64 t.kind, .string t.name, .slice ta tn tc, .string t.text, .int .i64 at_] 27)) := (Below.refl _ _).alloc (Nat.le_refl _) _
        have hab : (wr.alloc (.cells #[.int .i64 t.kind, .string t.name, .slice ta tn tc, .string t.text, .int .i64 at_] 27)).heap[wr.heap.size]? = some (.cells #[.int .i64 t.kind, .string t.name, .slice ta tn tc, .string t.text, .int .i64 at_] 27 (0, 0)) := new_at _ _
        have hane : wr.heap.size ≠ wb := by have := hS.lo'; omega
        have hS2 := hS.on hAL
        have hK2 := hK.trans (KeepW.of hAL hS.lo')
        have HK2 := Lib.hid hK2; have HS2 := Lib.hid hS2; have HAB := Lib.hid hab; have HANE := Lib.hid hane; have HLT := Lib.hid hlt; have HTK := Lib.hid htk; have HAT := Lib.hid e4
        obtain ⟨hz1, hz2, hz3⟩ := hsz
        generalize hT0 : rtL (l.take i) = T0 at *
        clear hc1 hg1 e4 hAL hab hane hS2 hK2 hlt hil him htk htt hm hBW hS hK hg hi hT0
        have htl0 : T0.length ≤ 10000000000000 := by omega
        clear htl htl2
        go_upto_region 8 with fail
        generalize hw2 : wr.alloc (.cells #[.int .i64 t.kind, .string t.name, .slice ta tn tc, .string t.text, .int .i64 at_] 27) = w2 at *
        generalize hab : wr.heap.size = ab at *
        clear hw2 c0 c1 c2 c3 c4
        have b0 : w2.cell? ⟨ab, 0, none⟩ = some (.int .i64 t.kind) := cellH HAB.out 0
        have b1 : w2.cell? ⟨ab, 1, none⟩ = some (.string t.name) := cellH HAB.out 1
        have b2 : w2.cell? ⟨ab, 2, none⟩ = some (.slice ta tn tc) := cellH HAB.out 2
        have b3 : w2.cell? ⟨ab, 3, none⟩ = some (.string t.text) := cellH HAB.out 3
        have b4 : w2.cell? ⟨ab, 4, none⟩ = some (.int .i64 at_) := cellH HAB.out 4
        clear hab
        have hcat : ¬ (9223372036854775807 < 1 + t.name.size) := by omega
        have hcat2 : ¬ (9223372036854775807 < 2 + t.name.size) := by omega
        have hcat3 : ¬ (9223372036854775807 < 2 + t.name.size + 1) := by omega
        have HNL := Lib.hid (size_list t.name)
        by_cases k1 : t.kind = 1
        · have k1' : rtK t = 60 :: (t.name.data.toList ++ (t.attrs.flatMap rtA ++ [62])) := by unfold rtK; rw [if_pos k1]
          have HK1' := Lib.hid k1'
          rw [k1] at b0
          clear k1 k1'
          have hal := rtA_len t.attrs
          have HAL := Lib.hid hal
          clear hal
          go_wp2_with fail
          refine (HS2.out.str _ (l := 60 :: t.name.data.toList) ?hs ?hl).mono ?_
          case hs => simp
          case hl =>
            simp only [ByteArray.size_append]
            have h1 : (⟨#[60]⟩ : ByteArray).size = 1 := rfl
            omega
          rintro e w3 ⟨rfl, hS3, hk3⟩
          have hab3 := hk3.t ab _ HAB.out HANE.out tok_free
          have d2 : w3.cell? ⟨ab, 2, none⟩ = some (.slice ta tn tc) := cellH hab3 2
          have hB3 : Below w.heap.size w w3 := HB1.out.trans ((HK2.out.trans hk3).x.below (by have := HWL.out; omega) HWL.out)
          have hbtn : tn = t.attrs.length := by
            obtain ⟨_, _, e, _⟩ := HAT.out
            injection e
          have HTN := Lib.hid hbtn
          have HA3 := Lib.hid (HAT.out.on hB3)
          have htnm : tn ≤ 1048576 := by
            have := wtL_len (f := wtAt) (k := 3) (fun x => by unfold wtAt; omega) t.attrs
            omega
          have HS3 := Lib.hid hS3; have HK3 := Lib.hid (HK2.out.trans hk3)
          clear hS3 hk3 hab3 hB3 hbtn b0 b1 b2 b3 b4
          generalize hT1 : T0 ++ 60 :: t.name.data.toList = T1 at *
          have htl1 : T1.length ≤ 10000001048577 := by rw [← hT1, List.length_append, List.length_cons]; have := HNL.out; omega
          have HT1 := Lib.hid hT1
          clear hT1
          go_wp2_with fail
          go_loopg [36] (tn + 1) (fun f s36 wx => ∃ (j : Nat), s36 = .int .i64 (j : Int) ∧ f + j = tn + 1 ∧ j ≤ tn ∧ Sb (wb + 1) wb (T1 ++ (t.attrs.take j).flatMap rtA) wx ∧ KeepW (wb + 1) wb w3 wx)
          case atStart => exact ⟨0, rfl, rfl, Nat.zero_le _, by simpa using HS3.out, KeepW.refl _ _ _⟩
          case round =>
            obtain ⟨j, rfl, hgj, hj, hSj, hKj⟩ := hrel
            have HGJ := Lib.hid hgj
            have hj0 : (0 : Int) ≤ j := by omega
            by_cases hltj : j < tn
            · have fj : IntKind.i64.wrap ((j : Int) + 1) = (j : Int) + 1 := IntWalk.i64_in _ (by omega)
              have hjI : (j : Int) < tn := by omega
              have hjl : j < t.attrs.length := by have := HTN.out; omega
              have hBj : Below w.heap.size w wr := HB1.out.trans ((HK3.out.trans hKj).x.below (by have := HWL.out; omega) HWL.out)
              obtain ⟨a1, cc1, e1, hc⟩ := HAT.out.on hBj
              injection e1 with e1 e2 e3
              subst e1 e3
              clear e2
              obtain ⟨g2, o2, rfl, hg2, hc1⟩ := hc j hjl
              have hwt := wtL_mem (f := wtAt) (List.getElem_mem hjl)
              have hTD : (t.attrs.take (j + 1)).flatMap rtA = (t.attrs.take j).flatMap rtA ++ rtA t.attrs[j] := by rw [take_snoc hjl, List.flatMap_append]; simp
              have hL1 := rtA_len (t.attrs.take j)
              have hL2 := wtL_take wtAt t.attrs j
              obtain ⟨pr, hpr⟩ : ∃ pr, t.attrs[j] = pr := ⟨_, rfl⟩
              rw [hpr] at hc1 hwt hTD
              obtain ⟨NM, V⟩ := pr
              have c0 : wr.cell? ⟨g2, o2 + j * 2, none⟩ = some (Value.string NM) := hc1 0 (by decide)
              have c1 : wr.cell? ⟨g2, o2 + j * 2 + 1, none⟩ = some (Value.string V) := hc1 1 (by decide)
              have hKV : NM.size ≤ 1048576 ∧ V.size ≤ 1048576 := by have hw : NM.size + V.size + 3 ≤ wtL wtAt t.attrs := hwt; omega
              obtain ⟨hKs, hVs⟩ := hKV
              have hal2 : (T1 ++ (t.attrs.take j).flatMap rtA).length ≤ 10000010000000 := by rw [List.length_append]; omega
              have HTD := Lib.hid hTD; have HLTJ := Lib.hid hltj; have HSJ := Lib.hid hSj; have HKJ := Lib.hid hKj
              generalize hT2 : T1 ++ (t.attrs.take j).flatMap rtA = T2 at *
              have HT2 := Lib.hid hT2
              have hAL : Below wr.heap.size wr (wr.alloc (.cells #[.string NM, .string V] 40)) := (Below.refl _ _).alloc (Nat.le_refl _) _
              have hab : (wr.alloc (.cells #[.string NM, .string V] 40)).heap[wr.heap.size]? = some (.cells #[.string NM, .string V] 40 (0, 0)) := new_at _ _
              have hane : wr.heap.size ≠ wb := by have := hSj.lo'; omega
              have HSA := Lib.hid (hSj.on hAL); have HKA := Lib.hid (hKj.trans (KeepW.of hAL hSj.lo')); have HBB := Lib.hid hab; have HBN := Lib.hid hane
              clear hc hc1 hg2 hBj hwt hTD hL1 hL2 hpr hSj hKj hT2 hAL hab hane hgj hj hltj hjl
              go_upto_region 15 with fail
              generalize hw5 : wr.alloc (.cells #[.string NM, .string V] 40) = w5 at *
              generalize hbb : wr.heap.size = bb at *
              clear hw5 hbb c0 c1
              have hS0 : w5.drew.cell? ⟨bb, 0, none⟩ = some (.string NM) ∧ w5.drew.cell? ⟨bb, 1, none⟩ = some (.string V) := ⟨cellH HBB.out 0, cellH HBB.out 1⟩
              have HS0 := Lib.hid hS0
              have q1 : ¬ (9223372036854775807 < 1 + NM.size) := by omega
              have q2 : ¬ (9223372036854775807 < 1 + NM.size + 2) := by omega
              have hev := esc_len6 V
              have q3 : ¬ (9223372036854775807 < 1 + NM.size + 2 + (escB V).size) := by omega
              have q4 : ¬ (9223372036854775807 < 1 + NM.size + 2 + (escB V).size + 1) := by omega
              have hes := rEscape_any (s := V) (w := w5.drew) (by omega)
              have HSD := Lib.hid (HSA.out.on (Below.refl _ _).drew)
              have HKD := Lib.hid (HKA.out.trans (KeepW.of (Below.refl _ _).drew HSA.out.lo'))
              have HBD := Lib.hid (show w5.drew.heap[bb]? = some (.cells #[.string NM, .string V] 40 (0, 0)) from HBB.out)
              have HES := Lib.hid hes
              clear hS0 hes
              refine wp_region_held_drew (S := fun w' => w'.cell? ⟨bb, 0, none⟩ = some (Value.string NM) ∧ w'.cell? ⟨bb, 1, none⟩ = some (Value.string V)) (by kernel_rfl) (HS0.out) (fun hHeld => ?_)
              refine tkH 0 hHeld ?_
              refine tkH 1 hHeld ?_
              refine tkH 2 hHeld ?_
              refine tkH 3 hHeld ?_
              refine tkH 4 hHeld ?_
              refine tkH 5 hHeld ?_
              refine wpAnyH_ready (rs := [6]) (by kernel_rfl) (by simp) ?_
              refine AllReadyH.cons rfl (fun K hK => ?_) AllReadyH.nil
              go_simp
              go_wp2_with (go_at_call 40; refine HES.out.mono ?_; rintro e w6 ⟨rfl, hB6⟩; have hS6 : w6.cell? ⟨bb, 0, none⟩ = some (Value.string _) ∧ w6.cell? ⟨bb, 1, none⟩ = some (Value.string _) := ⟨cellH ((hB6.block bb (lt_some HBD.out)).trans HBD.out) 0, cellH ((hB6.block bb (lt_some HBD.out)).trans HBD.out) 1⟩)
              refine hK.out _ _ (hS6) (fun hHeld => ?_)
              clear hK K
              refine tkH 7 hHeld ?_
              refine tkH 8 hHeld ?_
              have hS6' := HSD.out.on hB6
              have HS6 := Lib.hid hS6'; have HK6 := Lib.hid (HKD.out.trans (KeepW.of hB6 HSD.out.lo'))
              have HB6 := Lib.hid ((hB6.block bb (lt_some HBD.out)).trans HBD.out)
              clear hS6' hB6
              refine wpAnyH_ready (rs := [9]) (by kernel_rfl) (by simp) ?_
              refine AllReadyH.cons rfl (fun K hK => ?_) AllReadyH.nil
              go_simp
              go_wp2_with (go_at_call 39; refine (HS6.out.str _ (l := rtA (NM, V)) ?hs4 ?hl4).mono ?_; (case hs4 => simp [rtA]); (case hl4 => simp only [ByteArray.size_append]; have h1 : (⟨#[32]⟩ : ByteArray).size = 1 := rfl; have h2 : (⟨#[61, 34]⟩ : ByteArray).size = 2 := rfl; have h3 : (⟨#[34]⟩ : ByteArray).size = 1 := rfl; omega); rintro e w7 ⟨rfl, hS7, hk7⟩; have hT7 : w7.cell? ⟨bb, 0, none⟩ = some (Value.string _) ∧ w7.cell? ⟨bb, 1, none⟩ = some (Value.string _) := ⟨cellH (hk7.t bb _ HB6.out HBN.out at_free) 0, cellH (hk7.t bb _ HB6.out HBN.out at_free) 1⟩)
              refine hK.out _ _ (hT7) (fun hHeld => ?_)
              clear hK K
              refine wpAnyH_done (by kernel_rfl) ?_ _
              have HS7 := Lib.hid hS7; have HK7 := Lib.hid (HK6.out.trans hk7)
              clear hS7 hk7 hT7
              go_wp2_with fail
              go_roundg (tn - j)
              case rel =>
                refine ⟨j + 1, by simp, by have := HGJ.out; have := HLTJ.out; omega, HLTJ.out, ?_, HK7.out⟩
                have h := HS7.out
                rw [← HT2.out, List.append_assoc] at h
                rw [HTD.out]
                exact h
              case measure => have := HGJ.out; have := HLTJ.out; omega
            · have hjI : ¬ (j : Int) < tn := by omega
              have hall : t.attrs.take j = t.attrs := List.take_of_length_le (by have := HTN.out; omega)
              rw [hall] at hSj
              have HSJ := Lib.hid hSj; have HKJ := Lib.hid hKj
              clear hSj hKj hall
              have hal := HAL.out
              go_wp2_with fail
              refine (HSJ.out.str ⟨#[62]⟩ (l := [62]) rfl ?hl3).mono ?_
              case hl3 =>
                have h1 : (⟨#[62]⟩ : ByteArray).size = 1 := rfl
                rw [List.length_append]
                omega
              rintro e w4 ⟨rfl, hS4, hk4⟩
              have HS4 := Lib.hid hS4; have HK4 := Lib.hid ((HK3.out.trans HKJ.out).trans hk4)
              clear hS4 hk4
              go_wp2_with fail
              go_roundg (n - i)
              case rel =>
                refine ⟨i + 1, by simp, by have := HG.out; have := HLT.out; omega, HLT.out, ?_, HK4.out⟩
                have h := HS4.out
                rw [← HT1.out] at h
                rw [HTK.out, HK1'.out]
                simpa using h
              case measure => have := HG.out; have := HLT.out; omega
        · by_cases k2 : t.kind = 2
          · have k2' : rtK t = [60, 47] ++ (t.name.data.toList ++ [62]) := by unfold rtK; rw [if_neg k1, if_pos k2]
            have HK2' := Lib.hid k2'
            rw [k2] at b0
            clear k1 k2'
            go_wp2_with fail
            refine (HS2.out.str _ (l := [60, 47] ++ (t.name.data.toList ++ [62])) ?hs2 ?hl2).mono ?_
            case hs2 => simp
            case hl2 =>
              simp only [ByteArray.size_append]
              have h1 : (⟨#[60, 47]⟩ : ByteArray).size = 2 := rfl
              have h2 : (⟨#[62]⟩ : ByteArray).size = 1 := rfl
              omega
            rintro e w3 ⟨rfl, hS3, hk3⟩
            have HS3 := Lib.hid hS3; have HK3 := Lib.hid (HK2.out.trans hk3)
            clear hS3 hk3
            go_wp2_with fail
            go_roundg (n - i)
            case rel => exact ⟨i + 1, by simp, by have := HG.out; have := HLT.out; omega, HLT.out, by rw [HTK.out, HK2'.out]; exact HS3.out, HK3.out⟩
            case measure => have := HG.out; have := HLT.out; omega
          · have k3' : rtK t = (escB t.text).data.toList := by unfold rtK; rw [if_neg k1, if_neg k2]
            have HK3' := Lib.hid k3'
            have hes := rEscape_any (s := t.text) (w := w2) (by omega)
            have HES := Lib.hid hes
            have hel := esc_len6 t.text
            clear k3' hes
            go_wp2_with fail
            refine HES.out.mono ?_
            rintro e w3 ⟨rfl, hB3⟩
            have hS3 := HS2.out.on hB3
            have HS3 := Lib.hid hS3; have HK3 := Lib.hid (HK2.out.trans (KeepW.of hB3 HS2.out.lo'))
            clear hS3 hB3
            go_wp2_with fail
            refine (HS3.out.str _ rfl (by omega)).mono ?_
            rintro e w4 ⟨rfl, hS4, hk4⟩
            have HS4 := Lib.hid hS4; have HK4 := Lib.hid (HK3.out.trans hk4)
            clear hS4 hk4
            go_wp2_with fail
            go_roundg (n - i)
            case rel => exact ⟨i + 1, by simp, by have := HG.out; have := HLT.out; omega, HLT.out, by rw [HTK.out, HK3'.out]; exact HS4.out, HK4.out⟩
            case measure => have := HG.out; have := HLT.out; omega
      · have hiI : ¬ (i : Int) < n := by omega
        have hall : l.take i = l := List.take_of_length_le (by have := HN.out; omega)
        rw [hall] at hS
        obtain ⟨p, v, hb⟩ := hS.ex
        have hlen := bLen hb
        have HLEN := Lib.hid hlen; have HBB := Lib.hid hb; have HBW := Lib.hid hBW
        have HLO := Lib.hid hK
        clear hlen hb hS hBW hK hall htl htl2
        by_cases hz : 262144 < (rtL l).length
        · have he : rtE 0 l = 3 := by unfold rtE; rw [if_pos rfl, if_pos hz]
          have hb : rtB 0 l = ⟨#[]⟩ := by unfold rtB; rw [he]; rfl
          have HX := Lib.hid (And.intro he hb)
          have hzI : (262144 : Int) < ((rtL l).length : Int) := by omega
          clear he hb hz
          go_wp2_with fail
          refine HLEN.out.mono ?_
          rintro e w' ⟨rfl, rfl⟩
          go_wp2_with fail
          refine bodyPost_ret (results_tmp2 rfl _ _ _) rfl ?_
          rw [HX.out.1, HX.out.2]
          exact ⟨rfl, HBW.out⟩
        · have he : rtE 0 l = 0 := by unfold rtE; rw [if_pos rfl, if_neg hz]
          have hb : rtB 0 l = ⟨(rtL l).toArray⟩ := by unfold rtB; rw [he]; rfl
          have HX := Lib.hid (And.intro he hb)
          have hzI : ¬ (262144 : Int) < ((rtL l).length : Int) := by omega
          have hstr := bString HBB.out
          have HSTR := Lib.hid hstr
          clear he hb hz hstr
          go_wp2_with fail
          refine HLEN.out.mono ?_
          rintro e w' ⟨rfl, rfl⟩
          go_wp2_with fail
          refine HSTR.out.mono ?_
          rintro e w' ⟨rfl, hkv⟩
          have HE2 := Lib.hid (show Below w.heap.size w w' from ⟨hkv.os.trans HBW.out.os, hkv.tape.trans HBW.out.tape, hkv.output.trans HBW.out.output, Nat.le_trans HBW.out.size hkv.size, fun k hk => (hkv.block k (Nat.lt_of_lt_of_le hk HBW.out.size) (fun e => by have := (HBB.out.own_lt e).1; have := HWL.out; omega)).trans (HBW.out.block k hk)⟩)
          clear hkv
          go_wp2_with fail
          refine bodyPost_ret (results_tmp2 rfl _ _ _) rfl ?_
          rw [HX.out.1, HX.out.2]
          exact ⟨rfl, HE2.out⟩
  · have he : rtE E l = E := by unfold rtE; rw [if_neg hE]
    have hb : rtB E l = ⟨#[]⟩ := by unfold rtB; rw [he, if_neg hE]
    have HX := Lib.hid (And.intro he hb)
    clear he hb
    go_enter Tryz.func16, Tryz.ntmps16
    go_wp2_with fail
    refine HCK.out.mono ?_
    rintro e w1 ⟨rfl, hB1⟩
    have HB1 := Lib.hid hB1
    clear hB1
    go_wp2_with fail
    refine bodyPost_ret (results_tmp2 rfl _ _ _) rfl ?_
    rw [HX.out.1, HX.out.2]
    exact ⟨rfl, HB1.out⟩
end
end Go.Proofs.YtdipbfchlopeaaaGreatDoor
