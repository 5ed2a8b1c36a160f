/-
  The walk of XmlPrints: it returns true for all tokens.
-/
import Derived.Test.YtdipbfchlopeaaaGreatDoorXmBkW
import Derived.Test.YtdipbfchlopeaaaGreatDoorXmRk
import Derived.Test.YtdipbfchlopeaaaGreatDoorXmRq
namespace Go.Proofs.YtdipbfchlopeaaaGreatDoor
open Go.RowKit Go.PlainAid

theorem rtA_is {a : At2} (h : attrOk a = true) : rtA a = attrD D0 a := by
  unfold attrOk at h
  simp only [Bool.and_eq_true, decide_eq_true_eq] at h
  have e : escT a.2 = escB a.2 := by unfold escT; rw [if_pos h.2]
  show 32 :: (a.1.data.toList ++ ([61, 34] ++ ((escB a.2).data.toList ++ [34]))) = 32 :: ([] ++ (a.1.data.toList ++ ([61, 34] ++ ((escT a.2).data.toList ++ [34]))))
  rw [e]; rfl
theorem rtAs_is : ∀ {l : List At2}, (∀ a ∈ l, attrOk a = true) → l.flatMap rtA = attrsD D0 l
  | [], _ => rfl
  | a :: l, h => by
    rw [List.flatMap_cons, rtA_is (h a (by simp)), rtAs_is fun b hb => h b (by simp [hb])]
    rfl
theorem rtK_is {pile : List ByteArray} {ahead : Int} {t : Tk} (h : tkMay pile ahead t = true) : rtK t = tkD t := by
  unfold rtK tkD
  rcases tkMay_cases h with ⟨h1, _, _, h2⟩ | ⟨h1, _⟩ | ⟨h1, _, _, _, h2⟩
  · rw [if_pos h1, if_pos h1, rtAs_is (attrsOk_parts h2)]
  · rw [if_neg (by omega), if_pos h1, if_neg (by omega), if_pos h1]
  · rw [if_neg (by omega), if_neg (by omega), if_neg (by omega), if_neg (by omega)]
    unfold escT
    rw [if_pos h2]
theorem rtL_is : ∀ {l : List Tk} {pile : List ByteArray} {ahead : Int}, tksMay pile ahead l = true → rtL l = tksD l
  | [], _, _, _ => rfl
  | t :: l, pile, ahead, h => by
    unfold tksMay at h
    rw [Bool.and_eq_true] at h
    show rtK t ++ rtL l = tkD t ++ tksD l
    rw [rtK_is h.1, rtL_is h.2]
theorem rtE_is (l : List Tk) : rtE (ckE l) l = prE l := by
  unfold rtE ckE prE
  cases hm : tksMay [] 0 l with
  | false => simp
  | true =>
    rw [rtL_is hm]
    cases hl : tksLong [] l with
    | true => simp
    | false => simp
theorem rtB_is (l : List Tk) : rtB (ckE l) l = prB l := by
  unfold rtB prB
  rw [rtE_is]
  by_cases hz : prE l = 0
  · rw [if_pos hz, if_pos hz, rtL_is (prE_ok hz).1]
  · rw [if_neg hz, if_neg hz]
theorem rtK_len (t : Tk) : (rtK t).length ≤ 6 * wtT t := by
  have h1 := rtA_len t.attrs
  have h2 := esc_len6 t.text
  have h3 := size_list t.name
  have h4 := size_list (escB t.text)
  unfold rtK wtT
  split
  · simp only [List.length_cons, List.length_append, List.length_nil]; omega
  · split
    · simp only [List.length_cons, List.length_append, List.length_nil]; omega
    · omega
theorem rtL_len : ∀ l : List Tk, (rtL l).length ≤ 6 * wtL wtT l
  | [] => Nat.zero_le _
  | t :: l => by
    have h1 := rtL_len l
    have h2 := rtK_len t
    show (rtK t ++ rtL l).length ≤ _
    rw [List.length_append]
    simp only [wtL]
    omega
theorem TisAt.winc {w : World} {v : Value} {l : List TkI} (h : TisAt w v l) : WInC w v (l.map toTk) := by
  obtain ⟨ms, h1, h2, h3⟩ := h
  refine ⟨ms, h1, by rw [h2, List.length_map], fun j hj hj' => ?_⟩
  have hl : j < l.length := by rw [List.length_map] at hj'; exact hj'
  have h := h3 j hj hl
  rw [List.getElem_map]
  exact ⟨⟨h.kind, h.name, h.text, h.attrs⟩, h.ok.1⟩
/-- The reference's Print over tokens that were handed in. -/
theorem rPrint_toks (w : World) (v : Value) (l : List TkI) (h : TisAt w v l) (hw : wtL wtTk l ≤ 1048576) :
    Calls Tryz.prog 16 #[v] w fun e w' => e = .returned (.tuple #[.string (prB (l.map toTk)), .int .i64 (prE (l.map toTk))]) ∧ Below w.heap.size w w' := by
  have hln : l.length ≤ 1048576 := by
    have := wtL_len (f := wtTk) (k := 1) (fun x => by unfold wtTk; omega) l
    omega
  have hsz : ∀ t ∈ l.map toTk, t.name.size ≤ 1048576 ∧ wtL wtAt t.attrs ≤ 1048576 ∧ t.text.size ≤ 1048576 := fun t ht => by
    obtain ⟨x, hx, rfl⟩ := List.mem_map.1 ht
    have h := wtL_mem (f := wtTk) hx
    have h2 : x.name.size + x.text.size + wtL wtAt x.attrs + 3 ≤ wtL wtTk l := h
    show x.name.size ≤ 1048576 ∧ wtL wtAt x.attrs ≤ 1048576 ∧ x.text.size ≤ 1048576
    omega
  have hlm : (l.map toTk).length ≤ 1048576 := by rw [List.length_map]; exact hln
  have hck := rCheck_any w v (l.map toTk) h.winc hsz hlm
  have hp := rPrint_any w v (l.map toTk) h.win hsz hlm (by
    have h1 := rtL_len (l.map toTk)
    rw [wt_toTk] at h1
    omega) _ hck
  rw [rtE_is, rtB_is] at hp
  exact hp
/-- The row but for its last: it reads as the tokens that were copied. -/
theorem OwnI.pre {lo g n cap : Nat} {w w0 : World} {v0 : Value} {l : List TkI} {t : TkI} (h : OwnI lo w (.slice (some ⟨g, 0, none⟩) (n + 1) cap) (l ++ [t])) (h0 : TisAt w0 v0 l) (hn : l.length = n) :
    TisAt w (.slice (some ⟨g, 0, none⟩) n cap) l ∧ n ≤ cap ∧ cap ≤ maxLen ∧ w.cell? ⟨g, n * 5, none⟩ = some (.int .i64 t.kind) := by
  obtain ⟨ms, h1, h2, h3⟩ := h
  obtain ⟨ms0, _, g2, g3⟩ := h0
  rw [List.length_append, List.length_singleton] at h2
  rcases h1.read with ⟨e, _⟩ | ⟨g', cap', e, _, hg, hlc, hcm, hc⟩
  · rw [e] at h2; simp at h2
  injection e with e1 e2 e3
  injection e1 with e1
  injection e1 with e1
  subst e1 e3
  have htl : (ms.take n).length = n := by rw [List.length_take]; omega
  refine ⟨⟨ms.take n, ⟨_, cap, by rw [htl], fun j hj => ⟨g, 0, rfl, hg, fun i hi => ?_⟩⟩, by rw [htl, hn], fun j hj hj' => ?_⟩, by omega, hcm, ?_⟩
  · rw [htl] at hj
    rw [Nat.zero_add, List.getElem_take]
    exact hc j (by omega) i hi
  · rw [htl] at hj
    have hx := h3 j (by omega) (by rw [List.length_append]; omega)
    rw [List.getElem_append_left (by omega)] at hx
    have hy := g3 j (by omega) hj'
    rw [List.getElem_take]
    refine ⟨hx.kind, hx.name, hx.text, hx.at_, hx.attrs.at', ?_, hy.ki, hy.ai⟩
    rcases hx.attrs.read with ⟨e, e'⟩ | ⟨g', c', e', _, _, q1, q2, _⟩
    · injection e' with e1 e2 e3
      exact ⟨by omega, by rw [e3]; exact Nat.zero_le _, fun _ => e3⟩
    · injection e' with e1 e2 e3
      exact ⟨by omega, by omega, fun e => by rw [e] at e1; cases e1⟩
  · have hx := h3 n (by omega) (by rw [List.length_append, List.length_singleton]; omega)
    rw [List.getElem_append_right (by omega)] at hx
    simp only [hn, Nat.sub_self, List.getElem_singleton] at hx
    have := hc n (by omega) 0 (by decide)
    rw [← hx.kind]
    exact this
set_option maxRecDepth 100000
set_option maxHeartbeats 16000000
theorem xmlPrints_walk (v : Value) (l0 : List TkI) (w : World) (hv : TisArg w v l0) (hL : wtL wtTk l0 ≤ 1048576) (hG : Gl w) :
    Calls Tryz.prog 3 #[v] w fun e w' => e = .returned (.bool true) ∧ Below w.heap.size w w' := by
  obtain ⟨a0, c0, ev, hok⟩ := id hv.2
  subst ev
  have hv4 := hv.take 400
  have hL4 : wtL wtTk (l0.take 400) ≤ 1048576 := Nat.le_trans (wtL_take _ _ _) hL
  obtain ⟨n0, hn0⟩ : ∃ n, l0.length = n := ⟨_, rfl⟩
  rw [hn0] at hv4 hok ⊢
  obtain ⟨n4, hn4⟩ : ∃ n, min n0 400 = n := ⟨_, rfl⟩
  obtain ⟨l, hl⟩ : ∃ x, l0.take 400 = x := ⟨_, rfl⟩
  have hln : l.length = n4 := by rw [← hl, List.length_take, hn0, Nat.min_comm]; exact hn4
  rw [hn4, hl] at hv4
  rw [hl] at hL4
  have hcut := cut_laws a0 n0 c0
  rw [hn4] at hcut
  have HCUT := Lib.hid (fun W => hcut W hok.1)
  have HV4 := Lib.hid hv4
  have HLN := Lib.hid hln
  have HL4 := Lib.hid hL4
  have hn4z : n4 ≤ 400 := by omega
  have hnI : (n4 : Int) ≤ 400 := by omega
  have HWK := Lib.hid (wakes_any w hG)
  clear hG hv hcut hv4 hL hL4 hln hl hn4 hn0 hok
  go_enter Tryz.func3, Tryz.ntmps3
  go_wp2_with fail
  refine HWK.out.mono ?_
  rintro e w1 ⟨rfl, hB1⟩
  have HB1 := Lib.hid hB1
  clear hB1
  go_wp2_with fail
  refine (HCUT.out w1).mono ?_
  rintro e w1' ⟨rfl, rfl⟩
  have hcp := copies_any w1 _ l (HV4.out.on HB1.out) (by have := HLN.out; omega) (fun t ht => by
    have h := wtL_mem (f := wtTk) ht
    have h2 : t.name.size + t.text.size + wtL wtAt t.attrs + 3 ≤ wtL wtTk l := h
    have := HL4.out; omega)
  have HCP := Lib.hid hcp
  clear hcp HCUT
  go_wp2_with fail
  refine HCP.out.mono ?_
  rintro e w2 ⟨v2, rfl, hO2, hB2⟩
  have HB2 := Lib.hid (HB1.out.trans (hB2.mono HB1.out.size))
  have hzz := hB2.size
  obtain ⟨ms, h1, h2, h3⟩ := hO2
  obtain ⟨va, vn, vc, rfl⟩ := h1.form'
  have hvn : vn = n4 := by
    obtain ⟨_, _, e⟩ := h1.form
    injection e with _ e _
    rw [e, h2, HLN.out]
  have hmsl : ms.length = n4 := by rw [h2, HLN.out]
  subst hvn
  have hA : Below w2.heap.size w2 (w2.alloc (.cells #[.int .i64 77, .string ⟨#[]⟩, .slice none 0 0, .string ⟨#[]⟩, .int .i64 0] 27)) := (Below.refl _ _).alloc (Nat.le_refl _) _
  have HROW := Lib.hid (h1.on hA)
  have HBASE := Lib.hid (show w1.heap.size ≤ (w2.alloc (.cells #[.int .i64 77, .string ⟨#[]⟩, .slice none 0 0, .string ⟨#[]⟩, .int .i64 0] 27)).heap.size by simp; omega)
  have HMS := Lib.hid (show ms.length ≤ 100000000 by omega)
  have hown : ∀ g' cap w6, GRow TkEI w1.heap.size w6 (.slice (some ⟨g', 0, none⟩) (ms.length + 1) cap) (ms ++ [⟨77, ⟨#[]⟩, none, 0, 0, ⟨#[]⟩, 0⟩]) → (w2.alloc (.cells #[.int .i64 77, .string ⟨#[]⟩, .slice none 0 0, .string ⟨#[]⟩, .int .i64 0] 27)).grownBy w6 (Value.slice va vn vc).ownBlock → OwnI w1.heap.size w6 (.slice (some ⟨g', 0, none⟩) (vn + 1) cap) (l ++ [⟨77, ⟨#[]⟩, [], ⟨#[]⟩, 0⟩]) ∧ Below w.heap.size w w6 := fun g' cap w6 hr hg => by
    rw [hmsl] at hr
    exact ⟨OwnI.snoc h1 h2 h3 ⟨rfl, rfl, rfl, rfl, GRow.nil _ _ _⟩ hr hg, below_grown HB2.out (by have := HB2.out.size; omega) (fun k hk => by have := h1.own k hk; have := HB1.out.size; omega) hg⟩
  have HOWN := Lib.hid hown; have HMSL := Lib.hid hmsl
  clear HCP hB2 hzz h1 h2 h3 hA hown hmsl
  go_upto_region 5 with (at_builtin; go_must (refine wpList_snoc_at TkEI (x := ⟨77, ⟨#[]⟩, none, 0, 0, ⟨#[]⟩, 0⟩) rfl _ _ rfl w1.heap.size (.slice va vn vc) ms rfl HROW.out 1 _ rfl (Blk.new _ _ _) HMS.out HBASE.out ?_); intro g' cap w6 hrow6 hg6 _; obtain ⟨hO6, hB6⟩ := HOWN.out _ _ _ hrow6 hg6; rw [HMSL.out])
  have hO6' := hO6.pre HV4.out.1 HLN.out
  obtain ⟨hT6, hcap, hcm, hlast⟩ := hO6'
  have HT6 := Lib.hid hT6; have HB6 := Lib.hid hB6; have HLAST := Lib.hid hlast
  have hpr := print_toks w6 _ l hT6.win HL4.out
  have HPR := Lib.hid hpr
  clear hO6 hT6 hB6 hlast hpr hrow6 hg6 HOWN HROW HBASE HMS HMSL
  go_wp2_with fail
  refine HPR.out.mono ?_
  rintro e w7 ⟨rfl, hB7⟩
  have HB7 := Lib.hid (HB6.out.trans (hB7.mono HB6.out.size)); have HB67 := Lib.hid hB7
  clear hB7 HPR
  have hrp := rPrint_toks w7 _ l (HV4.out.on HB7.out).1 HL4.out
  have HRP := Lib.hid hrp
  clear hrp
  obtain ⟨pe, hpe⟩ : ∃ e, prE (l.map toTk) = e := ⟨_, rfl⟩
  obtain ⟨pb, hpb⟩ : ∃ e, prB (l.map toTk) = e := ⟨_, rfl⟩
  rw [hpe, hpb]
  rw [hpe, hpb] at HRP
  clear hpe hpb
  go_wp2_with fail
  refine HRP.out.mono ?_
  rintro e w8 ⟨rfl, hB8⟩
  have HB8 := Lib.hid (HB7.out.trans (hB8.mono HB7.out.size)); have HB68 := Lib.hid (HB67.out.trans (hB8.mono HB67.out.size))
  clear hB8 HRP
  have hsm := samei_yes w8 _ _ l (HT6.out.on HB68.out) (HV4.out.on HB8.out).1 (by have := HLN.out; unfold maxLen; omega) (fun t ht => by
    have h := wtL_mem (f := wtTk) ht
    have h2 : t.name.size + t.text.size + wtL wtAt t.attrs + 3 ≤ wtL wtTk l := h
    have h3 := wtL_len (f := wtAt) (k := 3) (fun x => by unfold wtAt; omega) t.attrs
    have := HL4.out; unfold maxLen; omega)
  have HSM := Lib.hid hsm
  have hpp : (pb.toList == pb.toList) = true := by simp
  have hee : (pe == pe) = true := by simp
  clear hsm
  go_wp2_with fail
  refine HSM.out.mono ?_
  rintro e w9 ⟨rfl, hB9⟩
  have HB9 := Lib.hid (HB8.out.trans (hB9.mono HB8.out.size))
  have cl : w9.cell? ⟨g', vn * 5, none⟩ = some (.int .i64 77) := cell_kept HLAST.out (HB68.out.trans (hB9.mono HB68.out.size))
  clear hB9 HSM
  go_wp2_with fail
  go_ret
  exact ⟨rfl, HB9.out⟩
end Go.Proofs.YtdipbfchlopeaaaGreatDoor
