/-
  The reference's Check: the walk.
-/
import Derived.Test.YtdipbfchlopeaaaGreatDoorXmRp
import Derived.Test.YtdipbfchlopeaaaGreatDoorXnO
namespace Go.Proofs.YtdipbfchlopeaaaGreatDoor
open Go.RowKit Go.PlainAid

/-- What Check answers. -/
def ckE (l : List Tk) : Int := if tksMay [] 0 l = true then (if tksLong [] l = true then 3 else 0) else 2
theorem ckE_no {l : List Tk} (h : tksMay [] 0 l = false) : ckE l = 2 := by unfold ckE; rw [h]; rfl
theorem may_none {a : Int} (ha : a ≠ 0) (t : Tk) : tkMay [] a t = false := by
  unfold tkMay
  split
  · rw [decide_eq_false ha]; simp
  · split
    · simp
    · split
      · simp
      · rfl
/-- A slice that reads as tokens, whose slices of attributes are right ones. -/
def WInC (w : World) (v : Value) (l : List Tk) : Prop :=
  ∃ ms : List TkMI, GAt TkEI w v ms ∧ ms.length = l.length ∧ ∀ j (h : j < ms.length) (h' : j < l.length), TkIn w ms[j] l[j] ∧ ms[j].an ≤ ms[j].ac
theorem WInC.win {w : World} {v : Value} {l : List Tk} (h : WInC w v l) : WIn w v l := by
  obtain ⟨ms, h1, h2, h3⟩ := h
  exact ⟨ms, h1, h2, fun j hj hj' => (h3 j hj hj').1⟩
theorem WInC.on {w w' : World} {v : Value} {l : List Tk} (h : WInC w v l) (hB : Below w.heap.size w w') : WInC w' v l := by
  obtain ⟨ms, h1, h2, h3⟩ := h
  exact ⟨ms, h1.on hB, h2, fun j hj hj' => ⟨⟨(h3 j hj hj').1.kind, (h3 j hj hj').1.name, (h3 j hj hj').1.text, (h3 j hj hj').1.attrs.on hB⟩, (h3 j hj hj').2⟩⟩
/-- What holds while tokens are looked through. -/
structure CkR (w0 : World) (l : List Tk) (i : Nat) (pv : Value) (lg : Bool) (wx : World) : Prop where
  ex : ∃ pile ahead, GRow StrE w0.heap.size wx pv pile ∧ tksMay [] 0 l = tksMay pile ahead (l.drop i) ∧ tksLong [] l = (lg || tksLong pile (l.drop i)) ∧ pile.length ≤ i ∧ (i = 0 → ahead = 0) ∧ (∀ (_ : i ≠ 0) (hi : i - 1 < l.length), ahead = l[i - 1].kind) ∧ (i ≠ 0 → ahead ≠ 0)
  k : Below w0.heap.size w0 wx
theorem ck_next {w wy : World} {l : List Tk} {i : Nat} {pile : List ByteArray} {ahead : Int} {t : Tk} {lg : Bool} {pv' : Value} (q1 : tksMay [] 0 l = tksMay pile ahead (t :: l.drop (i + 1))) (q2 : tksLong [] l = (lg || tksLong pile (t :: l.drop (i + 1)))) (q3 : pile.length ≤ i) (htt : ∃ h : i < l.length, l[i] = t)
    (hm : tkMay pile ahead t = true) (hr : GRow StrE w.heap.size wy pv' (tkPile pile t)) (hk : Below w.heap.size w wy) : CkR w l (i + 1) pv' (lg || tkLong pile t) wy := by
  refine ⟨⟨tkPile pile t, t.kind, hr, ?_, ?_, ?_, fun h => by omega, fun _ _ => ?_, fun _ => ?_⟩, hk⟩
  · rw [q1]
    show (tkMay pile ahead t && _) = _
    rw [hm, Bool.true_and]
  · rw [q2]
    show (lg || (tkLong pile t || _)) = _
    rw [Bool.or_assoc]
  · have := pile_len (pile := pile) (t := t)
    omega
  · obtain ⟨h, rfl⟩ := htt
    simp
  · rcases tkMay_cases hm with ⟨h, _⟩ | ⟨h, _⟩ | ⟨h, _⟩ <;> omega
theorem row_popc {lo pg n pc : Nat} {w : World} {pile : List ByteArray} (h : GRow StrE lo w (.slice (some ⟨pg, 0, none⟩) (n + 1) pc) pile) : GRow StrE lo w (.slice (some ⟨pg, 0, none⟩) n pc) pile.dropLast := by
  have hlen : pile.length = n + 1 := by
    obtain ⟨a, c, e⟩ := h.form
    injection e with _ e _
    exact e.symm
  obtain ⟨p, x, rfl⟩ : ∃ p x, pile = p ++ [x] := ⟨pile.dropLast, pile.getLast (by intro e; rw [e] at hlen; simp at hlen), (List.dropLast_concat_getLast _).symm⟩
  rw [List.length_append, List.length_singleton] at hlen
  have hn : p.length = n := by omega
  subst hn
  rw [List.dropLast_concat]
  unfold GRow at h ⊢
  rw [List.length_append, List.length_singleton, show StrE.cs (p ++ [x]) = StrE.cs p ++ [.string x] by simp [ETy.cs, StrE]] at h
  exact ownsRow_pop (by rw [ETy.cs_len]) h
section
set_option maxRecDepth 100000
set_option maxHeartbeats 8000000
theorem rCheck_any (w : World) (v : Value) (l : List Tk) (h : WInC w v l) (hsz : ∀ t ∈ l, t.name.size ≤ 1048576 ∧ wtL wtAt t.attrs ≤ 1048576 ∧ t.text.size ≤ 1048576) (hln : l.length ≤ 1048576) :
    Calls Tryz.prog 38 #[v] w fun e w' => e = .returned (.int .i64 (ckE l)) ∧ Below w.heap.size w w' := by
  obtain ⟨ms, hr, hm, ht⟩ := h
  obtain ⟨n, hn⟩ : ∃ n, l.length = n := ⟨_, rfl⟩
  rw [hn] at hm hln
  obtain ⟨aa, ca, rfl, hca⟩ := hr
  have HM := Lib.hid hm; have HN := Lib.hid hn; have HT := Lib.hid ht; have HCA := Lib.hid hca; have HSZ := Lib.hid hsz
  have H0 := Lib.hid (show CkR w l 0 (.slice none 0 0) false w from ⟨⟨[], 0, GRow.nil _ _ _, rfl, rfl, Nat.le_refl _, fun _ => rfl, fun h => absurd rfl h, fun h => absurd rfl h⟩, Below.refl _ _⟩)
  rw [hm]
  clear hm hn ht hca hsz
  go_enter Tryz.func38, Tryz.ntmps38
  go_wp2_with fail
  go_loopg [3, 4, 13] (n + 1) (fun f s3 s4 s13 wx => ∃ (i : Nat) (pv : Value) (lg : Bool), s3 = .bool lg ∧ pv = s4 ∧ s13 = .int .i64 (i : Int) ∧ f + i = n + 1 ∧ i ≤ n ∧ CkR w l i pv lg wx)
  case atStart => exact ⟨0, _, false, rfl, rfl, rfl, rfl, Nat.zero_le _, H0.out⟩
  case round =>
    clear H0
    obtain ⟨i, pv, lg, rfl, rfl, rfl, hg, hi, hR⟩ := hrel
    have HG := Lib.hid hg
    have hi0 : (0 : Int) ≤ i := by omega
    obtain ⟨pile, ahead, hrow, q1, q2, q3, q4, q5, q6⟩ := hR.ex
    have hBW := hR.k
    obtain ⟨pa, pc, hpv⟩ := hrow.form
    obtain ⟨pn, hpn⟩ : ∃ k, pile.length = k := ⟨_, rfl⟩
    rw [hpn] at hpv
    subst hpv
    by_cases hlt : i < n
    · have f1 : IntKind.i64.wrap ((i : Int) + 1) = (i : Int) + 1 := IntWalk.i64_in _ (by omega)
      have hiI : (i : Int) < n := by omega
      have hil : i < l.length := by have := HN.out; omega
      have him : i < ms.length := by have := HM.out; omega
      obtain ⟨g1, o1, rfl, hg1, hc1⟩ := HCA.out i him
      obtain ⟨t1, hcp⟩ := HT.out i him hil
      have hdr : l.drop i = l[i] :: l.drop (i + 1) := List.drop_eq_getElem_cons hil
      have hsz := HSZ.out l[i] (List.getElem_mem _)
      obtain ⟨m, hm⟩ : ∃ m, ms[i] = m := ⟨_, rfl⟩
      obtain ⟨t, htt⟩ : ∃ t, l[i] = t := ⟨_, rfl⟩
      rw [hm] at hc1 t1 hcp
      rw [htt] at t1 hdr hsz
      rw [hdr] at q1 q2
      obtain ⟨kd, nm, ta, tn, tc, tx, at_⟩ := m
      obtain ⟨e1, e2, e3, e4⟩ := t1
      simp only at e1 e2 e3 e4 hcp
      subst e1 e2 e3
      have c0 : wr.cell? ⟨g1, o1 + i * 5, none⟩ = some (.int .i64 t.kind) := cell_kept (hc1 0 (by decide)) hBW
      have c1 : wr.cell? ⟨g1, o1 + i * 5 + 1, none⟩ = some (.string t.name) := cell_kept (hc1 1 (by decide)) hBW
      have c2 : wr.cell? ⟨g1, o1 + i * 5 + 2, none⟩ = some (.slice ta tn tc) := cell_kept (hc1 2 (by decide)) hBW
      have c3 : wr.cell? ⟨g1, o1 + i * 5 + 3, none⟩ = some (.string t.text) := cell_kept (hc1 3 (by decide)) hBW
      have c4 : wr.cell? ⟨g1, o1 + i * 5 + 4, none⟩ = some (.int .i64 at_) := cell_kept (hc1 4 (by decide)) hBW
      have hAL : Below wr.heap.size wr (wr.alloc (.cells #[.int .i64 t.kind, .string t.name, .slice ta tn tc, .string t.text, .int .i64 at_] 27)) := (Below.refl _ _).alloc (Nat.le_refl _) _
      have hab : (wr.alloc (.cells #[.int .i64 t.kind, .string t.name, .slice ta tn tc, .string t.text, .int .i64 at_] 27)).heap[wr.heap.size]? = some (.cells #[.int .i64 t.kind, .string t.name, .slice ta tn tc, .string t.text, .int .i64 at_] 27 (0, 0)) := new_at _ _
      have hB2 := hBW.trans (hAL.mono hBW.size)
      have hrow2 := hrow.on hAL
      have HROW := Lib.hid hrow2; have HB2 := Lib.hid hB2; have HAB := Lib.hid hab; have HLT := Lib.hid hlt; have HAT := Lib.hid e4; have HQ := Lib.hid (And.intro q1 (And.intro q2 (And.intro q3 (And.intro q4 (And.intro q5 q6)))))
      have HPN := Lib.hid hpn; have HTT := Lib.hid htt
      have hno : tkMay pile ahead t = false → ckE l = 2 := fun h => ckE_no (by rw [q1]; show (tkMay pile ahead t && _) = false; rw [h]; rfl)
      have HNO := Lib.hid hno
      obtain ⟨hz1, hz2, hz3⟩ := hsz
      clear hc1 hg1 e4 hAL hab hB2 hrow2 hlt him hdr htt hm q1 q2 q3 q4 q5 q6 hBW hrow hR hpn hno
      go_upto_region 6 with fail
      generalize hw2 : wr.alloc (.cells #[.int .i64 t.kind, .string t.name, .slice ta tn tc, .string t.text, .int .i64 at_] 27) = w2 at *
      generalize hab : wr.heap.size = ab at *
      have b0 : w2.cell? ⟨ab, 0, none⟩ = some (.int .i64 t.kind) := cellH HAB.out 0
      have b1 : w2.cell? ⟨ab, 1, none⟩ = some (.string t.name) := cellH HAB.out 1
      have b2 : w2.cell? ⟨ab, 2, none⟩ = some (.slice ta tn tc) := cellH HAB.out 2
      have b3 : w2.cell? ⟨ab, 3, none⟩ = some (.string t.text) := cellH HAB.out 3
      clear hab hw2 c0 c1 c2 c3 c4
      by_cases hbad : i ≠ 0 ∧ pn = 0
      · obtain ⟨hi1, rfl⟩ := hbad
        have hiI2 : (0 : Int) < (i : Int) := by omega
        have hpe : pile = [] := List.eq_nil_of_length_eq_zero HPN.out
        have HX := Lib.hid (HNO.out (by rw [hpe]; exact may_none (HQ.out.2.2.2.2.2 hi1) t))
        clear hpe
        go_wp2_with fail
        go_ret
        rw [HX.out]
        exact ⟨rfl, HB2.out⟩
      · have hnb : i = 0 ∧ pn = 0 ∨ i ≠ 0 ∧ pn ≠ 0 := by have := HQ.out.2.2.1; have := HPN.out; omega
        have HNB := Lib.hid hnb
        clear hbad
        go_cut [24] (fun s24 wx => s24 = .bool false ∧ wx = w2)
        case first =>
          rcases hnb with ⟨rfl, rfl⟩ | ⟨h1, h2⟩
          · go_wp2_with fail
            go_meet
            case rel => exact ⟨rfl, rfl⟩
          · have hI2 : (0 : Int) < (i : Int) := by omega
            have hP2 : ¬ (pn : Int) = 0 := by omega
            have hP3 : ((pn : Int) == 0) = false := by simpa using hP2
            go_wp2_with fail
            go_meet
            case rel => exact ⟨rfl, rfl⟩
        case rest =>
        obtain ⟨rfl, rfl⟩ := hcut
        clear hnb
        by_cases k1 : t.kind = 1
        · have hty : tkMay pile ahead t = (nameB t.name && attrsOk [] t.attrs) := by
            have h0 : (decide (pile ≠ []) || decide (ahead = 0)) = true := by
              rcases HNB.out with ⟨h1, _⟩ | ⟨_, h2⟩
              · rw [decide_eq_true (HQ.out.2.2.2.1 h1), Bool.or_true]
              · have : pile ≠ [] := fun e => h2 (by rw [← HPN.out, e]; rfl)
                rw [decide_eq_true this, Bool.true_or]
            unfold tkMay
            rw [if_pos k1, h0, Bool.true_and]
          have htn : t.attrs.length = tn := by
            obtain ⟨_, _, e, _⟩ := HAT.out
            injection e with _ e _
            exact e.symm
          have hlg : tkLong pile t = (decide (64 < t.name.size) || decide (16 < tn) || decide (pn = 64) || attrsLong t.attrs) := by unfold tkLong; rw [if_pos k1, htn, HPN.out]
          have hpl : tkPile pile t = pile ++ [t.name] := by unfold tkPile; rw [if_pos k1]
          have htl : tn ≤ 1048576 := by
            have := wtL_len (f := wtAt) (k := 3) (fun x => by unfold wtAt; omega) t.attrs
            omega
          have hpnl : pn ≤ 1048576 := by have h1 := HQ.out.2.2.1; have := HPN.out; have := HLT.out; omega
          have HTY := Lib.hid hty; have HLG := Lib.hid hlg; have HPL := Lib.hid hpl; have HTN := Lib.hid htn
          rw [k1] at b0
          have hab := HAB.out
          rw [k1] at hab
          have HAB1 := Lib.hid hab
          clear k1 hty hlg hpl htn hab
          have hnm := rName_any t.name wc (by omega)
          cases hnb : nameB t.name with
          | false =>
            rw [hnb] at hnm
            have HNM := Lib.hid hnm
            have HX := Lib.hid (HNO.out (by rw [HTY.out, hnb]; rfl))
            clear hnm hnb
            go_wp2_with fail
            refine HNM.out.mono ?_
            rintro e w3 ⟨rfl, rfl⟩
            go_wp2_with fail
            go_ret
            rw [HX.out]
            exact ⟨rfl, HB2.out⟩
          | true =>
            rw [hnb] at hnm
            have HNM := Lib.hid hnm; have HNB1 := Lib.hid hnb
            clear hnm hnb
            go_wp2_with fail
            refine HNM.out.mono ?_
            rintro e w3 ⟨rfl, rfl⟩
            go_upto_region 13 with fail
            go_cut [3] (fun s3 wx => s3 = .bool (lg || (decide (64 < t.name.size) || decide (16 < tn) || decide (pn = 64))) ∧ wx = wc)
            case first =>
              cases lg with
              | true =>
                go_wp2_with fail
                go_meet
                case rel => exact ⟨rfl, rfl⟩
              | false =>
                by_cases hl0 : 64 < t.name.size
                · have hl0I : (64 : Int) < (t.name.size : Int) := by omega
                  have hl0D : decide (64 < t.name.size) = true := decide_eq_true hl0
                  have HD := Lib.hid (show (false || (decide (64 < t.name.size) || decide (16 < tn) || decide (pn = 64))) = true by rw [hl0D]; simp)
                  clear hl0 hl0D 
                  go_wp2_with fail
                  go_meet
                  case rel => exact ⟨by rw [HD.out], rfl⟩
                have hl0I : ¬ (64 : Int) < (t.name.size : Int) := by omega
                have hl0D : decide (64 < t.name.size) = false := decide_eq_false hl0
                by_cases hl1 : 16 < tn
                · have hl1I : (16 : Int) < (tn : Int) := by omega
                  have hl1D : decide (16 < tn) = true := decide_eq_true hl1
                  have HD := Lib.hid (show (false || (decide (64 < t.name.size) || decide (16 < tn) || decide (pn = 64))) = true by rw [hl0D, hl1D]; simp)
                  clear hl1 hl1D hl0D hl0
                  go_wp2_with fail
                  go_meet
                  case rel => exact ⟨by rw [HD.out], rfl⟩
                have hl1I : ¬ (16 : Int) < (tn : Int) := by omega
                have hl1D : decide (16 < tn) = false := decide_eq_false hl1
                by_cases hl2 : pn = 64
                · have hl2I : (pn : Int) = 64 := by omega
                  have hl2E : (((pn : Int)) == 64) = true := by simp; omega
                  have hl2D : decide (pn = 64) = true := decide_eq_true hl2
                  have HD := Lib.hid (show (false || (decide (64 < t.name.size) || decide (16 < tn) || decide (pn = 64))) = true by rw [hl0D, hl1D, hl2D]; simp)
                  clear hl2 hl2D hl0D hl0 hl1D hl1
                  go_wp2_with fail
                  go_meet
                  case rel => exact ⟨by rw [HD.out], rfl⟩
                have hl2I : ¬ (pn : Int) = 64 := by omega
                have hl2E : (((pn : Int)) == 64) = false := by simp; omega
                have hl2D : decide (pn = 64) = false := decide_eq_false hl2
                have HD := Lib.hid (show (false || (decide (64 < t.name.size) || decide (16 < tn) || decide (pn = 64))) = false by rw [hl0D, hl1D, hl2D]; rfl)
                clear hl0D hl0 hl1D hl1 hl2D hl2
                go_wp2_with fail
                go_meet
                case rel => exact ⟨by rw [HD.out], rfl⟩
            case rest =>
            obtain ⟨rfl, rfl⟩ := hcut
            obtain ⟨lg1, hlg1⟩ : ∃ b, (lg || (decide (64 < t.name.size) || decide (16 < tn) || decide (pn = 64))) = b := ⟨_, rfl⟩
            rw [hlg1]
            have HLG1 := Lib.hid hlg1
            have hzw := HB2.out.size
            have hrowA : GRow StrE w.heap.size (wc.alloc (.cells #[.string t.name] 9)) (.slice pa pn pc) pile := HROW.out.on ((Below.refl _ _).alloc (Nat.le_refl _) _)
            have hbase : w.heap.size ≤ (wc.alloc (.cells #[.string t.name] 9)).heap.size := by simp; omega
            have habl := lt_some HAB1.out
            have hp6 : ∀ v' w6, GRow StrE w.heap.size w6 v' (pile ++ [t.name]) → (wc.alloc (.cells #[.string t.name] 9)).grownBy w6 (Value.slice pa pn pc).ownBlock → w6.heap[ab]? = some (.cells #[.int .i64 1, .string t.name, .slice ta tn tc, .string t.text, .int .i64 at_] 27 (0, 0)) ∧ Below w.heap.size w w6 := fun v' w6 hr hg => by
              refine ⟨(hg.block ab (by simp; omega) (fun e => ?_)).trans ((Lib.alloc_old _ _ _ habl).trans HAB1.out), below_grown HB2.out hzw (fun k hk => HROW.out.own k hk) hg⟩
              obtain ⟨c, hc⟩ := HROW.out.kind ab e.symm
              exact kinds_ne hc HAB1.out (by decide)
            have hlen2 : pile.length ≤ 100000000 := by have := HPN.out; omega
            have HP6 := Lib.hid hp6; have HROWA := Lib.hid hrowA; have HLEN2 := Lib.hid hlen2
            clear hlg1 hrowA hp6 hlen2 habl
            go_upto_region 15 with (at_builtin; go_must (refine wpList_snoc_g StrE (x := t.name) rfl _ _ rfl w.heap.size (.slice pa pn pc) pile rfl HROWA.out 1 _ rfl (Blk.new _ _ _) HLEN2.out hbase ?_); intro v' w6 hrow6 hg6; obtain ⟨a', n', c', rfl⟩ := hrow6.form'; obtain ⟨hab6, hB6⟩ := HP6.out _ _ hrow6 hg6)
            have hn6 : n' = pn + 1 := by
              obtain ⟨_, _, e⟩ := hrow6.form
              injection e with _ e _
              rw [e, List.length_append, HPN.out]; rfl
            subst hn6
            have HROW6 := Lib.hid hrow6; have HAB6 := Lib.hid hab6; have HB6 := Lib.hid hB6
            have d2 : w6.cell? ⟨ab, 2, none⟩ = some (.slice ta tn tc) := cellH hab6 2
            clear hrow6 hg6 hab6 hB6 HROWA HP6 b0 b1 b2 b3 hbase hzw
            go_wp2_with fail
            go_loopg [3, 59] (tn + 1) (fun f s3 s59 wx => ∃ j : Nat, s59 = .int .i64 (j : Int) ∧ f + j = tn + 1 ∧ j ≤ tn ∧ s3 = .bool (lg1 || attrsLong (t.attrs.take j)) ∧ attrsOk [] (t.attrs.take j) = true ∧ Below w6.heap.size w6 wx)
            case atStart => exact ⟨0, rfl, rfl, Nat.zero_le _, by simp [attrsLong], rfl, Below.refl _ _⟩
            case round =>
              obtain ⟨j, rfl, hgj, hj, rfl, hok, hBj⟩ := hrel
              have HGJ := Lib.hid hgj
              have hj0 : (0 : Int) ≤ j := by omega
              obtain ⟨lg2, hlg2⟩ : ∃ b, (lg1 || attrsLong (t.attrs.take j)) = b := ⟨_, rfl⟩
              rw [hlg2]
              by_cases hltj : j < tn
              · have fj : IntKind.i64.wrap ((j : Int) + 1) = (j : Int) + 1 := IntWalk.i64_in _ (by omega)
                have hjI : (j : Int) < tn := by omega
                have hjl : j < t.attrs.length := by have := HTN.out; omega
                have hBWj : Below w.heap.size w wr := HB6.out.trans (hBj.mono HB6.out.size)
                obtain ⟨a1, cc1, e1, hc⟩ := HAT.out.on hBWj
                injection e1 with e1 e2 e3
                subst e1 e3
                clear e2
                obtain ⟨g2, o2, rfl, hg2, hc1⟩ := hc j hjl
                have hcs := fun m (hm : m < t.attrs.length) => hc m hm
                have hwt := wtL_mem (f := wtAt) (List.getElem_mem hjl)
                have hLG : (attrsLong (t.attrs.take (j + 1))) = (attrsLong (t.attrs.take j) || (decide (64 < t.attrs[j].1.size) || decide (4096 < t.attrs[j].2.size))) := by rw [take_snoc hjl, attrsLong_snoc]
                have hST := attrsOk_step hjl hok
                obtain ⟨pr, hpr⟩ : ∃ pr, t.attrs[j] = pr := ⟨_, rfl⟩
                rw [hpr] at hc1 hwt hLG hST
                obtain ⟨NM, V⟩ := pr
                have c0 : wr.cell? ⟨g2, o2 + j * 2, none⟩ = some (Value.string NM) := hc1 0 (by decide)
                have c1 : wr.cell? ⟨g2, o2 + j * 2 + 1, none⟩ = some (Value.string V) := hc1 1 (by decide)
                have hKV : NM.size ≤ 1048576 ∧ V.size ≤ 1048576 := by have hw : NM.size + V.size + 3 ≤ wtL wtAt t.attrs := hwt; omega
                obtain ⟨hKs, hVs⟩ := hKV
                have e2' : wr.cell? ⟨ab, 2, none⟩ = some (.slice (some ⟨g2, o2, none⟩) tn tc) := cell_kept d2 hBj
                have hAL : Below wr.heap.size wr (wr.alloc (.cells #[.string NM, .string V] 40)) := (Below.refl _ _).alloc (Nat.le_refl _) _
                have hbb : (wr.alloc (.cells #[.string NM, .string V] 40)).heap[wr.heap.size]? = some (.cells #[.string NM, .string V] 40 (0, 0)) := new_at _ _
                have hprev : ∀ m (hm : m < j), ∃ X Y : ByteArray, (∃ hml : m < t.attrs.length, t.attrs[m].1 = X) ∧ X.size ≤ 1048576 ∧ wr.cell? ⟨g2, o2 + m * 2, none⟩ = some (Value.string X) ∧ wr.cell? ⟨g2, o2 + m * 2 + 1, none⟩ = some (Value.string Y) := fun m hm => by
                  have hml : m < t.attrs.length := by omega
                  obtain ⟨g3, o3, e3, _, hc3⟩ := hcs m hml
                  injection e3 with e3
                  injection e3 with e3 e4
                  subst e3 e4
                  have hw2 := wtL_mem (f := wtAt) (List.getElem_mem hml)
                  have hw3 : t.attrs[m].1.size + t.attrs[m].2.size + 3 ≤ wtL wtAt t.attrs := hw2
                  exact ⟨_, _, ⟨hml, rfl⟩, by omega, hc3 0 (by decide), hc3 1 (by decide)⟩
                have HPV := Lib.hid hprev
                have HLG2 := Lib.hid hlg2; have HLG3 := Lib.hid hLG; have HST := Lib.hid hST; have HOKJ := Lib.hid hok; have HLTJ := Lib.hid hltj; have HJL := Lib.hid hjl
                have HB7 := Lib.hid (hBj.trans (hAL.mono hBj.size)); have HBB := Lib.hid hbb; have HAL := Lib.hid hAL; have HBWJ := Lib.hid (hBWj.trans (hAL.mono hBWj.size))
                have hno2 : attrsOk [] (t.attrs.take (j + 1)) = false → ckE l = 2 := fun h => HNO.out (by rw [HTY.out, attrsOk_no h, Bool.and_false])
                have HNO2 := Lib.hid hno2
                have d2' : (wr.alloc (.cells #[.string NM, .string V] 40)).cell? ⟨ab, 2, none⟩ = some (.slice (some ⟨g2, o2, none⟩) tn tc) := cell_kept e2' hAL
                clear hprev hcs hc hc1 hg2 hwt hLG hST hpr hBWj hgj hj hok hltj hjl hlg2 hAL hbb hno2 hBj
                go_upto_region 18 with fail
                generalize hw7 : wr.alloc (.cells #[.string NM, .string V] 40) = w7 at *
                generalize hjb : wr.heap.size = jb at *
                have a0 : w7.cell? ⟨jb, 0, none⟩ = some (.string NM) := cellH HBB.out 0
                have a1 : w7.cell? ⟨jb, 1, none⟩ = some (.string V) := cellH HBB.out 1
                have HPV7 := Lib.hid (fun m (hm : m < j) => by
                  obtain ⟨X, Y, h1, h2, h3, h4⟩ := HPV.out m hm
                  have hAL2 := HAL.out
                  exact (⟨X, Y, h1, h2, cell_kept h3 (by first | exact hAL2 | (rw [hjb]; exact hAL2)), cell_kept h4 (by first | exact hAL2 | (rw [hjb]; exact hAL2))⟩ : ∃ X Y : ByteArray, (∃ hml : m < t.attrs.length, t.attrs[m].1 = X) ∧ X.size ≤ 1048576 ∧ w7.cell? ⟨g2, o2 + m * 2, none⟩ = some (Value.string X) ∧ w7.cell? ⟨g2, o2 + m * 2 + 1, none⟩ = some (Value.string Y)))
                clear hw7 hjb c0 c1 e2' HPV HAL
                have hna := rName_any NM w7 (by omega)
                cases hnb2 : nameB NM with
                | false =>
                  rw [hnb2] at hna
                  have HNA := Lib.hid hna
                  have HX := Lib.hid (HNO2.out (by rw [HST.out]; show ((nameB NM && _) && _) = false; rw [hnb2]; rfl))
                  clear hna hnb2
                  go_wp2_with fail
                  refine HNA.out.mono ?_
                  rintro e w3 ⟨rfl, rfl⟩
                  go_wp2_with fail
                  go_ret
                  rw [HX.out]
                  exact ⟨rfl, HBWJ.out⟩
                | true =>
                  rw [hnb2] at hna
                  have HNA := Lib.hid hna; have HN2 := Lib.hid hnb2
                  clear hna hnb2
                  have hta := rTaken_any (s := V) (w := w7) (by omega)
                  cases htx : takenX V with
                  | false =>
                    rw [htx] at hta
                    have HTA := Lib.hid hta
                    have HX := Lib.hid (HNO2.out (by rw [HST.out]; show ((nameB NM && decide (takenE V = 0)) && _) = false; rw [decide_eq_false (p := takenE V = 0) (fun e => by rw [takenE_X e] at htx; cases htx), Bool.and_false, Bool.false_and]))
                    clear hta htx
                    go_wp2_with fail
                    refine HNA.out.mono ?_
                    rintro e w3 ⟨rfl, rfl⟩
                    go_wp2_with fail
                    refine HTA.out.mono ?_
                    rintro e w3 ⟨rfl, rfl⟩
                    go_wp2_with fail
                    go_ret
                    rw [HX.out]
                    exact ⟨rfl, HBWJ.out⟩
                  | true =>
                    rw [htx] at hta
                    have HTA := Lib.hid hta
                    have HTE := Lib.hid (takenE_of htx)
                    clear hta htx
                    go_wp2_with fail
                    refine HNA.out.mono ?_
                    rintro e w3 ⟨rfl, rfl⟩
                    go_wp2_with fail
                    refine HTA.out.mono ?_
                    rintro e w3 ⟨rfl, rfl⟩
                    go_upto_region 20 with fail
                    go_cut [3] (fun s3 wx => s3 = .bool (lg2 || (decide (64 < NM.size) || decide (4096 < V.size))) ∧ wx = w7)
                    case first =>
                      cases lg2 with
                      | true =>
                        go_wp2_with fail
                        go_meet
                        case rel => exact ⟨rfl, rfl⟩
                      | false =>
                        by_cases hl0 : 64 < NM.size
                        · have hl0I : (64 : Int) < (NM.size : Int) := by omega
                          have hl0D : decide (64 < NM.size) = true := decide_eq_true hl0
                          have HD := Lib.hid (show (false || (decide (64 < NM.size) || decide (4096 < V.size))) = true by rw [hl0D]; simp)
                          clear hl0 hl0D 
                          go_wp2_with fail
                          go_meet
                          case rel => exact ⟨by rw [HD.out], rfl⟩
                        have hl0I : ¬ (64 : Int) < (NM.size : Int) := by omega
                        have hl0D : decide (64 < NM.size) = false := decide_eq_false hl0
                        by_cases hl1 : 4096 < V.size
                        · have hl1I : (4096 : Int) < (V.size : Int) := by omega
                          have hl1D : decide (4096 < V.size) = true := decide_eq_true hl1
                          have HD := Lib.hid (show (false || (decide (64 < NM.size) || decide (4096 < V.size))) = true by rw [hl0D, hl1D]; simp)
                          clear hl1 hl1D hl0D hl0
                          go_wp2_with fail
                          go_meet
                          case rel => exact ⟨by rw [HD.out], rfl⟩
                        have hl1I : ¬ (4096 : Int) < (V.size : Int) := by omega
                        have hl1D : decide (4096 < V.size) = false := decide_eq_false hl1
                        have HD := Lib.hid (show (false || (decide (64 < NM.size) || decide (4096 < V.size))) = false by rw [hl0D, hl1D]; rfl)
                        clear hl0D hl0 hl1D hl1
                        go_wp2_with fail
                        go_meet
                        case rel => exact ⟨by rw [HD.out], rfl⟩
                    case rest =>
                    obtain ⟨rfl, rfl⟩ := hcut
                    have hj1 : (j : Int) ≤ tc := by have := HLTJ.out; omega
                    have hjt : j ≤ tc := by have := HLTJ.out; omega
                    have hAny : ((t.attrs.take 0).any fun b => decide (b.1 = NM)) = false := rfl
                    have HANY := Lib.hid hAny
                    clear hAny
                    go_wp2_with fail
                    go_loopg [92] (j + 1) (fun f s92 wx => ∃ m : Nat, s92 = .int .i64 (m : Int) ∧ f + m = j + 1 ∧ m ≤ j ∧ ((t.attrs.take m).any fun b => decide (b.1 = NM)) = false ∧ Below wc.heap.size wc wx)
                    case atStart => exact ⟨0, rfl, rfl, Nat.zero_le _, HANY.out, Below.refl _ _⟩
                    case round =>
                      clear HANY
                      obtain ⟨m, rfl, hgm, hm, hany, hBm⟩ := hrel
                      have HGM := Lib.hid hgm; have HANY := Lib.hid hany
                      have hm0 : (0 : Int) ≤ m := by omega
                      by_cases hltm : m < j
                      · obtain ⟨X, Y, ⟨hml, hX⟩, hXs, x0, x1⟩ := HPV7.out m hltm
                        have hmI : (m : Int) < j := by omega
                        have fm : IntKind.i64.wrap ((m : Int) + 1) = (m : Int) + 1 := IntWalk.i64_in _ (by omega)
                        have y0 : wr.cell? ⟨g2, o2 + m * 2, none⟩ = some (Value.string X) := cell_kept x0 hBm
                        have y1 : wr.cell? ⟨g2, o2 + m * 2 + 1, none⟩ = some (Value.string Y) := cell_kept x1 hBm
                        have a0' : wr.cell? ⟨jb, 0, none⟩ = some (.string NM) := cell_kept a0 hBm
                        have hAL : Below wr.heap.size wr (wr.alloc (.cells #[.string X, .string Y] 40)) := (Below.refl _ _).alloc (Nat.le_refl _) _
                        have hbb : (wr.alloc (.cells #[.string X, .string Y] 40)).heap[wr.heap.size]? = some (.cells #[.string X, .string Y] 40 (0, 0)) := new_at _ _
                        have hstp : ((t.attrs.take (m + 1)).any fun b => decide (b.1 = NM)) = decide (X = NM) := by
                          rw [take_snoc hml, List.any_append, hany, Bool.false_or, List.any_cons, List.any_nil, Bool.or_false, hX]
                        have HBM := Lib.hid (hBm.trans (hAL.mono hBm.size)); have HBB2 := Lib.hid hbb; have HSTP := Lib.hid hstp; have HLTM := Lib.hid hltm
                        have a0'' : (wr.alloc (.cells #[.string X, .string Y] 40)).cell? ⟨jb, 0, none⟩ = some (.string NM) := cell_kept a0' hAL
                        have hxb := bytes_eqb NM X
                        clear x0 x1 hX hAL hbb hstp hany hgm hm hltm hBm
                        go_upto_region 24 with fail
                        generalize hw8 : wr.alloc (.cells #[.string X, .string Y] 40) = w8 at *
                        generalize hkb : wr.heap.size = kb at *
                        have k0 : w8.cell? ⟨kb, 0, none⟩ = some (.string X) := cellH HBB2.out 0
                        clear hw8 hkb y0 y1 a0'
                        by_cases hx : NM = X
                        · have HX := Lib.hid (HNO2.out (by
                            rw [HST.out]
                            show (_ && !((t.attrs.take j).any fun b => decide (b.1 = NM))) = false
                            have hin : ((t.attrs.take j).any fun b => decide (b.1 = NM)) = true := by
                              have h1 := HSTP.out
                              rw [decide_eq_true hx.symm] at h1
                              rw [List.any_eq_true] at h1 ⊢
                              obtain ⟨b, hb, hb2⟩ := h1
                              exact ⟨b, (List.take_subset_take_left _ HLTM.out) hb, hb2⟩
                            rw [hin]; simp))
                          have HBE := Lib.hid (HBWJ.out.trans (HBM.out.mono HBWJ.out.size))
                          rw [← hx] at k0
                          clear hx hxb
                          go_wp2_with fail
                          go_ret
                          rw [HX.out]
                          exact ⟨rfl, HBE.out⟩
                        · have hxe : (NM.toList == X.toList) = false := by rw [hxb, decide_eq_false hx]
                          have hxl : ¬ NM.toList = X.toList := fun e => by rw [e] at hxe; simp at hxe
                          have HSN := Lib.hid (show ((t.attrs.take (m + 1)).any fun b => decide (b.1 = NM)) = false by rw [HSTP.out, decide_eq_false (fun e => hx e.symm)])
                          clear hx hxb
                          go_wp2_with fail
                          go_roundg (j - m)
                          case rel => exact ⟨m + 1, by simp, by have := HGM.out; have := HLTM.out; omega, HLTM.out, HSN.out, HBM.out⟩
                          case measure => have := HGM.out; have := HLTM.out; omega
                      · have hmI : ¬ (m : Int) < j := by omega
                        obtain rfl : m = j := by omega
                        have HNX := Lib.hid (show attrsOk [] (t.attrs.take (m + 1)) = true by rw [HST.out]; show ((nameB NM && decide (takenE V = 0)) && !((t.attrs.take m).any fun b => decide (b.1 = NM))) = true; rw [HN2.out, decide_eq_true HTE.out, HANY.out]; rfl)
                        have HBE := Lib.hid (HB7.out.trans (hBm.mono HB7.out.size))
                        clear hgm hm hany hBm hltm
                        go_wp2_with fail
                        go_roundg (tn - m)
                        case rel => exact ⟨m + 1, by simp, by have := HGJ.out; have := HLTJ.out; omega, HLTJ.out, by rw [HLG3.out, ← HLG2.out, Bool.or_assoc], HNX.out, HBE.out⟩
                        case measure => have := HGJ.out; have := HLTJ.out; omega
              · have hjI : ¬ (j : Int) < tn := by omega
                obtain rfl : j = tn := by omega
                have hall : t.attrs.take j = t.attrs := List.take_of_length_le (by have := HTN.out; omega)
                rw [hall] at hok hlg2
                have hmay : tkMay pile ahead t = true := by rw [HTY.out, HNB1.out, hok]; rfl
                have hBe : Below w.heap.size w wr := HB6.out.trans (hBj.mono HB6.out.size)
                have hnx := ck_next HQ.out.1 HQ.out.2.1 HQ.out.2.2.1 ⟨_, HTT.out⟩ hmay (by rw [HPL.out]; exact HROW6.out.on hBj) hBe
                have hlq : (lg || tkLong pile t) = lg2 := by rw [HLG.out, ← hlg2, ← HLG1.out]; simp only [Bool.or_assoc]
                rw [hlq] at hnx
                have HNX := Lib.hid hnx
                clear hall hok hlg2 hmay hBe hnx hlq hBj hgj hj hltj
                go_wp2_with fail
                go_roundg (n - i)
                case rel => exact ⟨i + 1, _, lg2, rfl, rfl, by simp, by have := HG.out; have := HLT.out; omega, HLT.out, HNX.out⟩
                case measure => have := HG.out; have := HLT.out; omega
        by_cases k2 : t.kind = 2
        · have hty : tkMay pile ahead t = (decide (pile ≠ []) && decide (pile.getLastD ⟨#[]⟩ = t.name)) := by unfold tkMay; rw [if_neg k1, if_pos k2]
          have hlg : tkLong pile t = false := by unfold tkLong; rw [if_neg k1, if_neg (by omega)]
          have hpl : tkPile pile t = pile.dropLast := by unfold tkPile; rw [if_neg k1, if_pos k2]
          have HTY := Lib.hid hty; have HLG := Lib.hid hlg; have HPL := Lib.hid hpl
          rw [k2] at b0
          have HSD := Lib.hid (show wc.drew.cell? ⟨ab, 1, none⟩ = some (.string t.name) from b1)
          have HBD := Lib.hid (show Below w.heap.size w wc.drew from HB2.out.drew)
          clear k1 k2 hty hlg hpl
          rcases HNB.out with ⟨rfl, rfl⟩ | ⟨h1, h2⟩
          · have hpe : pile = [] := List.eq_nil_of_length_eq_zero HPN.out
            have HX := Lib.hid (HNO.out (by rw [HTY.out, hpe]; rfl))
            clear hpe
            go_upto_region 29 with fail
            refine wp_region_held_drew (S := fun w' => w'.cell? ⟨ab, 1, none⟩ = some (Value.string t.name)) (by kernel_rfl) (HSD.out) (fun hHeld => ?_)
            refine tkH 0 hHeld ?_
            refine tkH 1 hHeld ?_
            refine tkH 2 hHeld ?_
            refine tkH 3 hHeld ?_
            refine skH 4 hHeld ?_
            refine skH 5 hHeld ?_
            refine skH 6 hHeld ?_
            refine skH 7 hHeld ?_
            refine skH 8 hHeld ?_
            refine skH 9 hHeld ?_
            refine skH 10 hHeld ?_
            refine skH 11 hHeld ?_
            refine skH 12 hHeld ?_
            refine tkH 13 hHeld ?_
            refine wpAnyH_done (by kernel_rfl) ?_ _
            go_wp2_with fail
            go_ret
            rw [HX.out]
            exact ⟨rfl, HBD.out⟩
          have hpne : pile ≠ [] := fun e => h2 (by rw [← HPN.out, e]; rfl)
          obtain ⟨k, rfl⟩ : ∃ k, pn = k + 1 := ⟨pn - 1, by omega⟩
          obtain ⟨p, x, hpile⟩ : ∃ p x, pile = p ++ [x] := ⟨pile.dropLast, pile.getLast hpne, (List.dropLast_concat_getLast hpne).symm⟩
          have hpk : p.length = k := by have h := HPN.out; rw [hpile, List.length_append, List.length_singleton] at h; omega
          have hlast : pile.getLastD ⟨#[]⟩ = x := by rw [hpile]; simp
          have hrow : ∃ pg, pa = some ⟨pg, 0, none⟩ ∧ k + 1 ≤ pc ∧ pc ≤ maxLen ∧ wc.cell? ⟨pg, k, none⟩ = some (.string x) := by
            rcases HROW.out.read with ⟨e, _⟩ | ⟨pg, cap, e, _, g1, g2, g3, g4⟩
            · exact absurd e hpne
            · injection e with e1 e2 e3
              subst e3
              have hkl : k < pile.length := by have := HPN.out; omega
              refine ⟨pg, e1, by have := HPN.out; omega, g3, ?_⟩
              have h := g4 k hkl 0 (by decide)
              have hx : pile[k] = x := by
                simp only [hpile]
                rw [List.getElem_append_right (by omega)]
                simp
              rw [hx] at h
              simpa [StrE] using h
          obtain ⟨pg, rfl, hkc, hpm, hcx⟩ := hrow
          have f2 : IntKind.i64.wrap ((k : Int) + 1 - 1) = (k : Int) := by rw [show (k : Int) + 1 - 1 = k by omega]; exact IntWalk.i64_in _ (by unfold maxLen at hpm; omega)
          have f3 : IntKind.i64.wrap (k : Int) = (k : Int) := IntWalk.i64_in _ (by unfold maxLen at hpm; omega)
          have hk0 : (0 : Int) ≤ k := by omega
          have hkI : (k : Int) < (k : Int) + 1 := by omega
          have hkp : ((k : Int) + 1 == 0) = false := by simp; omega
          have hS := Lib.hid (show wc.drew.cell? ⟨ab, 1, none⟩ = some (.string t.name) ∧ wc.drew.cell? ⟨pg, k, none⟩ = some (.string x) from ⟨b1, hcx⟩)
          have HLAST := Lib.hid hlast; have HPNE := Lib.hid hpne
          have hxb := bytes_eqb x t.name
          clear hpne hpile hpk hlast hcx h1 h2
          by_cases hx : x = t.name
          · obtain ⟨nm, hnm⟩ : ∃ y, t.name = y := ⟨_, rfl⟩
            rw [hnm] at hx
            subst hx
            have hmay : tkMay pile ahead t = true := by rw [HTY.out, decide_eq_true HPNE.out, HLAST.out, hnm, decide_eq_true rfl]; rfl
            have hxn := str_ne_self' x
            have HNX := Lib.hid (ck_next HQ.out.1 HQ.out.2.1 HQ.out.2.2.1 ⟨_, HTT.out⟩ hmay (by rw [HPL.out]; exact row_popc (HROW.out.on (Below.refl _ _).drew)) HBD.out)
            rw [hnm] at b1 hS
            clear hmay hnm hxb
            go_upto_region 29 with fail
            refine wp_region_held_drew (S := fun w' => w'.cell? ⟨ab, 1, none⟩ = some (Value.string x) ∧ w'.cell? ⟨pg, k, none⟩ = some (Value.string x)) (by kernel_rfl) (hS.out) (fun hHeld => ?_)
            refine tkH 0 hHeld ?_
            refine tkH 1 hHeld ?_
            refine tkH 2 hHeld ?_
            refine tkH 3 hHeld ?_
            refine tkH 4 hHeld ?_
            refine tkH 5 hHeld ?_
            refine tkH 6 hHeld ?_
            refine tkH 7 hHeld ?_
            refine tkH 8 hHeld ?_
            refine tkH 9 hHeld ?_
            refine tkH 10 hHeld ?_
            refine tkH 11 hHeld ?_
            refine tkH 12 hHeld ?_
            refine tkH 13 hHeld ?_
            refine wpAnyH_done (by kernel_rfl) ?_ _
            go_wp2_with fail
            go_roundg (n - i)
            case rel =>
              have h := HNX.out
              rw [HLG.out, Bool.or_false] at h
              exact ⟨i + 1, _, lg, rfl, rfl, by simp, by have := HG.out; have := HLT.out; omega, HLT.out, h⟩
            case measure => have := HG.out; have := HLT.out; omega
          · have hxn : (x.toList != t.name.toList) = true := by rw [bne, hxb, decide_eq_false hx]; rfl
            have hxe : (x.toList == t.name.toList) = false := by rw [hxb, decide_eq_false hx]
            have hxl : ¬ x.toList = t.name.toList := fun e => by rw [e] at hxe; simp at hxe
            have HX := Lib.hid (HNO.out (by rw [HTY.out, HLAST.out, decide_eq_false hx, Bool.and_false]))
            clear hx hxb
            go_upto_region 29 with fail
            refine wp_region_held_drew (S := fun w' => w'.cell? ⟨ab, 1, none⟩ = some (Value.string t.name) ∧ w'.cell? ⟨pg, k, none⟩ = some (Value.string x)) (by kernel_rfl) (hS.out) (fun hHeld => ?_)
            refine tkH 0 hHeld ?_
            refine tkH 1 hHeld ?_
            refine tkH 2 hHeld ?_
            refine tkH 3 hHeld ?_
            refine tkH 4 hHeld ?_
            refine tkH 5 hHeld ?_
            refine tkH 6 hHeld ?_
            refine tkH 7 hHeld ?_
            refine tkH 8 hHeld ?_
            refine tkH 9 hHeld ?_
            refine tkH 10 hHeld ?_
            refine tkH 11 hHeld ?_
            refine tkH 12 hHeld ?_
            refine tkH 13 hHeld ?_
            refine wpAnyH_done (by kernel_rfl) ?_ _
            go_wp2_with fail
            go_ret
            rw [HX.out]
            exact ⟨rfl, HBD.out⟩
        by_cases k3 : t.kind = 3
        · have hty : tkMay pile ahead t = (decide (pile ≠ []) && decide (ahead ≠ 3) && decide (t.text.size ≠ 0) && decide (takenE t.text = 0)) := by unfold tkMay; rw [if_neg k1, if_neg k2, if_pos k3]
          have hlg : tkLong pile t = decide (4096 < t.text.size) := by unfold tkLong; rw [if_neg k1, if_pos k3]
          have hpl : tkPile pile t = pile := by unfold tkPile; rw [if_neg k1, if_neg k2]
          have HTY := Lib.hid hty; have HLG := Lib.hid hlg; have HPL := Lib.hid hpl; have HK3 := Lib.hid k3
          rw [k3] at b0
          clear k1 k2 k3 hty hlg hpl
          rcases HNB.out with ⟨rfl, rfl⟩ | ⟨h1, h2⟩
          · have hpe : pile = [] := List.eq_nil_of_length_eq_zero HPN.out
            have HX := Lib.hid (HNO.out (by rw [HTY.out, hpe]; rfl))
            clear hpe
            go_wp2_with fail
            go_ret
            rw [HX.out]
            exact ⟨rfl, HB2.out⟩
          have hpne : pile ≠ [] := fun e => h2 (by rw [← HPN.out, e]; rfl)
          have HPNE := Lib.hid hpne
          have hP2 : ¬ (pn : Int) = 0 := by omega
          have hP3 : ((pn : Int) == 0) = false := by simpa using hP2
          obtain ⟨i', rfl⟩ : ∃ k, i = k + 1 := ⟨i - 1, by omega⟩
          clear hpne h1 h2
          by_cases hz : t.text.size = 0
          · have HX := Lib.hid (HNO.out (by rw [HTY.out, hz]; simp))
            have hte : t.text = ⟨#[]⟩ := tl_size hz
            rw [hte] at b3
            clear hz
            go_wp2_with fail
            go_ret
            rw [HX.out]
            exact ⟨rfl, HB2.out⟩
          have hte := ne_empty t.text
          rw [decide_eq_true hz] at hte
          have hte2 : (t.text.toList == []) = false := by
            have := hte
            cases h : t.text.toList with
            | nil => rw [h] at this; cases this
            | cons => rfl
          have hte3 : ¬ t.text.toList = [] := fun e => by rw [e] at hte2; cases hte2
          have HZ := Lib.hid hz
          have htk := rTaken_any (s := t.text) (w := wc) (by omega)
          clear hz
          cases htx : takenX t.text with
          | false =>
            rw [htx] at htk
            have HTK := Lib.hid htk
            have HX := Lib.hid (HNO.out (by rw [HTY.out, decide_eq_false (p := takenE t.text = 0) (fun e => by rw [takenE_X e] at htx; cases htx)]; simp))
            clear htk htx
            go_wp2_with fail
            refine HTK.out.mono ?_
            rintro e w3 ⟨rfl, rfl⟩
            go_wp2_with fail
            go_ret
            rw [HX.out]
            exact ⟨rfl, HB2.out⟩
          | true =>
            rw [htx] at htk
            have HTK := Lib.hid htk
            have HTX := Lib.hid (takenE_of htx)
            clear htk htx
            have hil2 : i' < l.length := by omega
            have him2 : i' < ms.length := by have := HM.out; have := HN.out; omega
            have hti := (HT.out i' him2 hil2).1
            obtain ⟨g9, o9, e9, _, hc9⟩ := HCA.out i' him2
            injection e9 with e9
            injection e9 with e9 e10
            subst e9 e10
            have p0 : wc.cell? ⟨g1, o1 + i' * 5, none⟩ = some (.int .i64 l[i'].kind) := by
              have h := cell_kept (hc9 0 (by decide)) HB2.out
              have h2 : wc.cell? ⟨g1, o1 + i' * 5, none⟩ = some (.int .i64 ms[i'].kind) := h
              rw [hti.kind] at h2
              exact h2
            have hah : ahead = l[i'].kind := HQ.out.2.2.2.2.1 (by omega) (by simpa using hil2)
            have f2 : IntKind.i64.wrap (((i' + 1 : Nat) : Int) - 1) = (i' : Int) := by rw [show ((i' + 1 : Nat) : Int) - 1 = (i' : Int) by omega]; exact IntWalk.i64_in _ (by omega)
            by_cases hk : ahead = 3
            · have HX := Lib.hid (HNO.out (by rw [HTY.out, hk]; simp))
              rw [← hah, hk] at p0
              clear hti hc9 hah hk
              go_wp2_with fail
              refine HTK.out.mono ?_
              rintro e w3 ⟨rfl, rfl⟩
              go_wp2_with fail
              go_ret
              rw [HX.out]
              exact ⟨rfl, HB2.out⟩
            · have hk2 : ¬ l[i'].kind = 3 := by rw [← hah]; exact hk
              have hk3 : (l[i'].kind == 3) = false := by simpa using hk2
              have hmay : tkMay pile ahead t = true := by rw [HTY.out, decide_eq_true HPNE.out, decide_eq_true hk, decide_eq_true HZ.out, decide_eq_true HTX.out]; rfl
              have HMAY := Lib.hid hmay
              have hnx : CkR w l (i' + 1 + 1) (.slice pa pn pc) (lg || decide (4096 < t.text.size)) wc := by
                obtain ⟨q1, q2, q3, q4, q5, q6⟩ := HQ.out
                refine ⟨⟨pile, 3, HROW.out, ?_, ?_, by omega, fun h => by omega, fun _ _ => ?_, fun _ => by decide⟩, HB2.out⟩
                · rw [q1]
                  show (tkMay pile ahead t && tksMay (tkPile pile t) t.kind _) = _
                  rw [HMAY.out, HPL.out, HK3.out, Bool.true_and]
                · rw [q2]
                  show (lg || (tkLong pile t || tksLong (tkPile pile t) _)) = _
                  rw [HLG.out, HPL.out, Bool.or_assoc]
                · rw [← HK3.out, ← HTT.out]; simp
              have HNX := Lib.hid hnx
              clear hti hc9 hah hk hmay hnx
              cases lg with
              | true =>
                go_wp2_with fail
                refine HTK.out.mono ?_
                rintro e w3 ⟨rfl, rfl⟩
                go_wp2_with fail
                go_roundg (n - (i' + 1))
                case rel => exact ⟨i' + 1 + 1, _, true, rfl, rfl, by simp, by have := HG.out; have := HLT.out; omega, HLT.out, by simpa using HNX.out⟩
                case measure => have := HG.out; have := HLT.out; omega
              | false =>
                by_cases hlz : 4096 < t.text.size
                · have hlI : (4096 : Int) < (t.text.size : Int) := by omega
                  have HNY := Lib.hid (show CkR w l (i' + 1 + 1) (.slice pa pn pc) true wc by have h := HNX.out; rw [decide_eq_true hlz] at h; exact h)
                  clear hlz
                  go_wp2_with fail
                  refine HTK.out.mono ?_
                  rintro e w3 ⟨rfl, rfl⟩
                  go_wp2_with fail
                  go_roundg (n - (i' + 1))
                  case rel => exact ⟨i' + 1 + 1, _, true, rfl, rfl, by simp, by have := HG.out; have := HLT.out; omega, HLT.out, HNY.out⟩
                  case measure => have := HG.out; have := HLT.out; omega
                · have hlI : ¬ (4096 : Int) < (t.text.size : Int) := by omega
                  have HNY := Lib.hid (show CkR w l (i' + 1 + 1) (.slice pa pn pc) false wc by have h := HNX.out; rw [decide_eq_false hlz] at h; exact h)
                  clear hlz
                  go_wp2_with fail
                  refine HTK.out.mono ?_
                  rintro e w3 ⟨rfl, rfl⟩
                  go_wp2_with fail
                  go_roundg (n - (i' + 1))
                  case rel => exact ⟨i' + 1 + 1, _, false, by rw [decide_eq_false (by omega)], rfl, by simp, by have := HG.out; have := HLT.out; omega, HLT.out, HNY.out⟩
                  case measure => have := HG.out; have := HLT.out; omega
        · have HX := Lib.hid (HNO.out (by unfold tkMay; rw [if_neg k1, if_neg k2, if_neg k3]))
          go_wp2_with fail
          go_ret
          rw [HX.out]
          exact ⟨rfl, HB2.out⟩
    · have hiI : ¬ (i : Int) < n := by omega
      have hdr : l.drop i = [] := List.drop_eq_nil_of_le (by have := HN.out; omega)
      rw [hdr] at q1 q2
      have q1' : tksMay [] 0 l = (decide (pile = []) && decide (ahead ≠ 0)) := q1
      have q2' : tksLong [] l = lg := by rw [q2]; show (lg || false) = lg; rw [Bool.or_false]
      have hin : n = i := by omega
      have HB := Lib.hid hBW; have HPN := Lib.hid hpn; have HQ1 := Lib.hid q1'; have HQ2 := Lib.hid q2'; have HQ5 := Lib.hid q4; have HQ6 := Lib.hid q6
      subst hin
      clear q1 q2 q1' q2' q3 q4 q5 q6 hBW hrow hR hpn hdr hg hi
      by_cases hp : pn = 0
      · subst hp
        have hpe : pile = [] := List.eq_nil_of_length_eq_zero HPN.out
        by_cases h0 : n = 0
        · subst h0
          have HX := Lib.hid (ckE_no (by rw [HQ1.out, HQ5.out rfl]; simp))
          clear hpe
          go_wp2_with fail
          go_ret
          rw [HX.out]
          exact ⟨rfl, HB.out⟩
        · have hnI : ¬ (n : Int) = 0 := by omega
          have hmay : tksMay [] 0 l = true := by rw [HQ1.out, hpe, decide_eq_true (HQ6.out h0)]; rfl
          cases lg with
          | true =>
            have HX := Lib.hid (show ckE l = 3 by unfold ckE; rw [hmay, if_pos rfl, HQ2.out, if_pos rfl])
            clear hpe hmay
            go_wp2_with fail
            go_ret
            rw [HX.out]
            exact ⟨rfl, HB.out⟩
          | false =>
            have HX := Lib.hid (show ckE l = 0 by unfold ckE; rw [hmay, if_pos rfl, HQ2.out]; rfl)
            clear hpe hmay
            go_wp2_with fail
            go_ret
            rw [HX.out]
            exact ⟨rfl, HB.out⟩
      · have HX := Lib.hid (ckE_no (l := l) (by rw [HQ1.out, decide_eq_false (fun e => hp (by rw [← HPN.out, e]; rfl))]; rfl))
        have hpI : (0 : Int) < (pn : Int) := by omega
        by_cases h0 : n = 0
        · subst h0
          clear hp
          go_wp2_with fail
          go_ret
          rw [HX.out]
          exact ⟨rfl, HB.out⟩
        · have hnI : ¬ (n : Int) = 0 := by omega
          clear hp
          go_wp2_with fail
          go_ret
          rw [HX.out]
          exact ⟨rfl, HB.out⟩
end
end Go.Proofs.YtdipbfchlopeaaaGreatDoor
