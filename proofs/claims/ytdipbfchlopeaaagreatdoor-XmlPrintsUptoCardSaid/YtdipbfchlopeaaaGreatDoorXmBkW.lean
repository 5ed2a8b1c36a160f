/-
  The walk of XmlBack: it returns true for all tokens.
-/
import Derived.Test.YtdipbfchlopeaaaGreatDoorXnO
import Derived.Test.YtdipbfchlopeaaaGreatDoorXnN
import Derived.Test.YtdipbfchlopeaaaGreatDoorXnM
namespace Go.Proofs.YtdipbfchlopeaaaGreatDoor
open Go.RowKit Go.PlainAid

theorem OwnI.win {lo : Nat} {w : World} {v : Value} {l : List TkI} (h : OwnI lo w v l) : WIn w v (l.map toTk) := by
  obtain ⟨ms, h1, h2, h3⟩ := h
  refine ⟨ms, h1.at', by rw [h2, List.length_map], fun j hj hj' => ?_⟩
  have hl : j < l.length := by rw [List.length_map] at hj'; exact hj'
  have h := h3 j hj hl
  rw [List.getElem_map]
  exact ⟨h.kind, h.name, h.text, h.attrs.at'⟩
theorem wt_toTk : ∀ l : List TkI, wtL wtT (l.map toTk) = wtL wtTk l
  | [] => rfl
  | t :: l => by
    have := wt_toTk l
    simp only [List.map_cons, wtL, this]
    rfl
/-- Print over tokens that were handed in, or copies of them. -/
theorem print_toks (w : World) (v : Value) (l : List TkI) (h : WIn w v (l.map toTk)) (hw : wtL wtTk l ≤ 1048576) :
    Calls Tryz.prog 15 #[v] w fun e w' => e = .returned (.tuple #[.string (prB (l.map toTk)), .int .i64 (prE (l.map toTk))]) ∧ Below w.heap.size w w' := by
  have hln : l.length ≤ 1048576 := by
    have := wtL_len (f := wtTk) (k := 1) (fun x => by unfold wtTk; omega) l
    omega
  refine print_any w v _ h (fun t ht => ?_) (by rw [List.length_map]; exact hln) ?_
  · obtain ⟨x, hx, rfl⟩ := List.mem_map.1 ht
    have h := wtL_mem (f := wtTk) hx
    have h2 : x.name.size + x.text.size + wtL wtAt x.attrs + 3 ≤ wtL wtTk l := h
    show x.name.size ≤ 1048576 ∧ wtL wtAt x.attrs ≤ 1048576 ∧ x.text.size ≤ 1048576
    omega
  · have h1 := tksD_len (l.map toTk)
    rw [wt_toTk] at h1
    omega
/-- What is read at a place. -/
theorem norm_at {L : List Tk} {l : List Tk} (h : L.map noAt = l.map normT) (i : Nat) (hi : i < L.length) (hi' : i < l.length) : noAt L[i] = normT l[i] := by
  have h1 : (L.map noAt)[i]'(by rw [List.length_map]; exact hi) = (l.map normT)[i]'(by rw [List.length_map]; exact hi') := by simp only [h]
  rw [List.getElem_map, List.getElem_map] at h1
  exact h1
theorem may_kinds : ∀ {l : List Tk} {p : List ByteArray} {a : Int}, tksMay p a l = true → ∀ t ∈ l, t.kind = 1 ∨ t.kind = 2 ∨ t.kind = 3
  | [], _, _, _, t, ht => absurd ht (by simp)
  | u :: l, p, a, h, t, ht => by
    unfold tksMay at h
    rw [Bool.and_eq_true] at h
    rcases List.mem_cons.1 ht with rfl | ht
    · rcases tkMay_cases h.1 with ⟨h, _⟩ | ⟨h, _⟩ | ⟨h, _⟩ <;> omega
    · exact may_kinds h.2 t ht
theorem rises_at {s : ByteArray} : ∀ {L : List Tk} {a i : Nat}, Rises s a L → (hi : i < L.length) → L[i].at_ < s.size
  | [], _, _, _, hi => absurd hi (by simp)
  | t :: l, a, 0, h, _ => h.2.1
  | t :: l, a, i + 1, h, hi => rises_at h.2.2.2 (by simpa using hi)
theorem n21 : ¬ (2 : Int) = 1 := by decide
theorem n31 : ¬ (3 : Int) = 1 := by decide
theorem n32 : ¬ (3 : Int) = 2 := by decide
theorem GAt.nil' {α : Type} (E : ETy α) (w : World) : GAt E w (.slice none 0 0) [] := ⟨none, 0, rfl, fun j hj => absurd hj (by simp)⟩
set_option maxRecDepth 100000
set_option maxHeartbeats 16000000
theorem xmlBack_walk (v : Value) (l0 : List TkI) (w : World) (hv : TisArg w v l0) (hL : wtL wtTk l0 ≤ 1048576) (hG : Gl w) :
    Calls Tryz.prog 4 #[v] w fun e w' => e = .returned (.bool true) ∧ Below w.heap.size w w' := by
  obtain ⟨a0, c0, ev, hok⟩ := id hv.2
  subst ev
  have hv4 := hv.take 400
  have hL4 : wtL wtTk (l0.take 400) ≤ 1048576 := Nat.le_trans (wtL_take _ _ _) hL
  obtain ⟨n0, hn0⟩ : ∃ n, l0.length = n := ⟨_, rfl⟩
  rw [hn0] at hv4 hok ⊢
  obtain ⟨n4, hn4⟩ : ∃ n, min n0 400 = n := ⟨_, rfl⟩
  obtain ⟨l, hl⟩ : ∃ x, l0.take 400 = x := ⟨_, rfl⟩
  have hln : l.length = n4 := by rw [← hl, List.length_take, hn0, Nat.min_comm]; exact hn4
  rw [hn4, hl] at hv4
  rw [hl] at hL4
  have hcut := cut_laws a0 n0 c0
  rw [hn4] at hcut
  have HCUT := Lib.hid (fun W => hcut W hok.1)
  have HV4 := Lib.hid hv4
  have HLN := Lib.hid hln
  have HL4 := Lib.hid hL4
  have hn4z : n4 ≤ 400 := by omega
  have HWK := Lib.hid (wakes_any w hG)
  have HG := Lib.hid hG
  clear hG hv hcut hv4 hL hL4 hln hl hn4 hn0 hok
  go_enter Tryz.func4, Tryz.ntmps4
  go_wp2_with fail
  refine HWK.out.mono ?_
  rintro e w1 ⟨rfl, hB1⟩
  have HB1 := Lib.hid hB1
  clear hB1
  go_wp2_with fail
  refine (HCUT.out w1).mono ?_
  rintro e w1' ⟨rfl, rfl⟩
  have hcp := copies_any w1 _ l (HV4.out.on HB1.out) (by have := HLN.out; omega) (fun t ht => by
    have h := wtL_mem (f := wtTk) ht
    have h2 : t.name.size + t.text.size + wtL wtAt t.attrs + 3 ≤ wtL wtTk l := h
    have := HL4.out; omega)
  have HCP := Lib.hid hcp
  clear hcp HCUT
  go_wp2_with fail
  refine HCP.out.mono ?_
  rintro e w2 ⟨v2, rfl, hO2, hB2⟩
  have hpr := print_toks w2 v2 l hO2.win HL4.out
  have HPR := Lib.hid hpr
  have HB2 := Lib.hid (HB1.out.trans (hB2.mono HB1.out.size))
  clear hpr hO2 hB2 HCP
  go_wp2_with fail
  refine HPR.out.mono ?_
  rintro e w3 ⟨rfl, hB3⟩
  have HB3 := Lib.hid (HB2.out.trans (hB3.mono HB2.out.size))
  clear hB3 HPR
  obtain ⟨lk, hlk⟩ : ∃ x, l.map toTk = x := ⟨_, rfl⟩
  rw [hlk]
  obtain ⟨pe, hpe⟩ : ∃ e, prE lk = e := ⟨_, rfl⟩
  obtain ⟨pb, hpb⟩ : ∃ e, prB lk = e := ⟨_, rfl⟩
  rw [hpe, hpb]
  have HLK := Lib.hid hlk
  clear hlk
  by_cases hpz : pe = 0
  case neg =>
    have hpb0 : pb = ⟨#[]⟩ := by rw [← hpb]; unfold prB; rw [if_neg (by rw [hpe]; exact hpz)]
    subst hpb0
    have hne : (pe != 0) = true := by simpa using hpz
    clear hpe hpb
    go_wp2_with fail
    go_ret
    exact ⟨rfl, HB3.out⟩
  subst hpz
  obtain ⟨z, L, e1, e2, e3, e4, e5⟩ := back_read hpe
  have hmay := (prE_ok hpe).1
  rw [hpb] at e1 e4 e5
  have hLlen : L.length = n4 := by
    have h := congrArg List.length e2
    rw [List.length_map, List.length_map] at h
    rw [h, ← HLK.out, List.length_map, HLN.out]
  have hprl := tokens_nest e1
  have HMAY := Lib.hid hmay; have HE2 := Lib.hid e2; have HE3 := Lib.hid e3; have HE4 := Lib.hid e4; have HE5 := Lib.hid e5; have HLL := Lib.hid hLlen
  have hpbz : pb.size ≤ 262144 := by
    unfold tokensX at e1
    split at e1
    · cases e1
    · omega
  have HPRT := Lib.hid (fun W V (hW : WIn W V L) => print_any W V L hW (fun t ht => by have := hprl.2.2.2.2 t ht; omega) (by have := hprl.2.2.2.1; omega) (by
      have h1 := tksD_len L
      have h2 := wtL_all (f := wtT) (k := 200000) (l := L) (fun t ht => by have := hprl.2.2.2.2 t ht; unfold wtT; omega)
      have h3 : 200000 * L.length ≤ 200000 * 262144 := Nat.mul_le_mul_left _ (by have := hprl.2.2.2.1; omega)
      omega))
  have htok := tokens_any pb w3 (HG.out.on HB3.out)
  have HTOK := Lib.hid htok
  have HTX := Lib.hid e1
  have HSL := Lib.hid hprl.2.2.2.2
  clear e1 e2 e3 e4 e5 hmay hLlen hprl htok hpe hpb
  go_wp2_with fail
  refine HTOK.out.mono ?_
  intro en w4 hE
  obtain ⟨vg, rfl, hO, hB4⟩ := hE.read
  have he0 : tkE pb = 0 := by unfold tkE; rw [HTX.out]
  have ha0 : tkA pb = 0 := by unfold tkA; rw [HTX.out]
  have hl0 : tkL pb = L := by unfold tkL; rw [HTX.out]
  rw [he0, ha0]
  rw [hl0] at hO
  have HB34 := Lib.hid (HB3.out.trans (hB4.mono HB3.out.size))
  have HO := Lib.hid hO
  clear hE HTOK HTX he0 ha0 hl0 hB4 hO
  go_upto_region 8 with fail
  have hA := (Below.refl w4.heap.size w4).alloc (Nat.le_refl _) (.cells #[.int .i64 0, .int .i64 0] 34)
  have hT := Blk.new w4 #[.int .i64 0, .int .i64 0] 34
  have HB5 := Lib.hid (HB34.out.trans (hA.mono HB34.out.size))
  have HO5 := Lib.hid (show OutAt w3.heap.size (w4.alloc (.cells #[.int .i64 0, .int .i64 0] 34)) vg L from by
    obtain ⟨ms, h1, h2, h3⟩ := HO.out
    exact ⟨ms, h1.on hA, h2, fun j hj hj' => ⟨(h3 j hj hj').kind, (h3 j hj hj').name, (h3 j hj hj').text, (h3 j hj hj').at_, (h3 j hj hj').attrs.on hA⟩⟩)
  clear HO
  generalize w4.alloc (.cells #[.int .i64 0, .int .i64 0] 34) = w5 at *
  generalize w4.heap.size = sb at *
  have c0' : w5.cell? ⟨sb, 0, none⟩ = some (.int .i64 0) := hT.cell 0
  have c1' : w5.cell? ⟨sb, 1, none⟩ = some (.int .i64 0) := hT.cell 1
  clear hA hT
  obtain ⟨oa, on, oc, rfl⟩ : ∃ a n c, vg = .slice a n c := by
    obtain ⟨ms, h1, _⟩ := HO5.out
    exact h1.form'
  have hon : on = n4 := by
    obtain ⟨ms, h1, h2, _⟩ := HO5.out
    obtain ⟨a, c, e⟩ := h1.form
    injection e with _ e _
    rw [e, h2, HLL.out]
  subst hon
  have hv5 : TisArg w5 (.slice a0 on c0) l := HV4.out.on HB5.out
  have HV5 := Lib.hid hv5
  clear hv5
  have H0 := Lib.hid (show Rises pb 0 (L.drop 0) from by rw [List.drop_zero]; exact HE5.out)
  have hneq : ((on : Int) != (on : Int)) = false := by simp
  go_wp2_with fail
  go_loopg [7, 43] (on + 1) (fun f s7 s43 wx => ∃ (i at_ : Nat), s7 = .int .i64 (at_ : Int) ∧ s43 = .int .i64 (i : Int) ∧ f + i = on + 1 ∧ i ≤ on ∧ Rises pb at_ (L.drop i) ∧ Below w5.heap.size w5 wx)
  case atStart => exact ⟨0, 0, rfl, rfl, rfl, Nat.zero_le _, H0.out, Below.refl _ _⟩
  case round =>
    clear H0 c0' c1' hneq
    obtain ⟨i, at_, rfl, rfl, hg, hi, hR, hB⟩ := hrel
    have HG2 := Lib.hid hg; have HB := Lib.hid hB
    have hi0 : (0 : Int) ≤ i := by omega
    by_cases hlt : i < on
    · have f1 : IntKind.i64.wrap ((i : Int) + 1) = (i : Int) + 1 := IntWalk.i64_in _ (by omega)
      have hiI : (i : Int) < on := by omega
      have hil : i < l.length := by have := HLN.out; omega
      have hiL : i < L.length := by have := HLL.out; omega
      have hilk : i < lk.length := by rw [← HLK.out, List.length_map]; exact hil
      have hd : L.drop i = L[i] :: L.drop (i + 1) := List.drop_eq_getElem_cons hiL
      rw [hd] at hR
      obtain ⟨r1, r2, r3, r4⟩ := hR
      have hnorm := norm_at HE2.out i hiL hilk
      have hlki : lk[i] = toTk l[i] := by simp only [← HLK.out]; rw [List.getElem_map]
      rw [hlki] at hnorm
      have hkind := may_kinds HMAY.out lk[i] (List.getElem_mem _)
      rw [hlki] at hkind
      -- what was handed in
      obtain ⟨⟨ms, hr, hml, hms⟩, _⟩ := HV5.out
      have him : i < ms.length := by omega
      obtain ⟨aa, ca, ea, hca⟩ := hr
      injection ea with ea1 ea2 ea3
      subst ea1
      clear ea2 ea3
      obtain ⟨g1, o1, rfl, hg1, hc1⟩ := hca i him
      have t1 := hms i him hil
      -- what was read
      obtain ⟨gs, hgrow, hgl, hgs⟩ := HO5.out
      have hig : i < gs.length := by omega
      rcases hgrow.read with ⟨e6, _⟩ | ⟨g2, cap2, e6, _, hg2, _, _, hc2⟩
      · rw [e6] at hig; simp at hig
      injection e6 with e6 e7 e8
      subst e6 e8
      clear e7
      have u1 := hgs i hig hiL
      have hslim := HSL.out L[i] (List.getElem_mem _)
      obtain ⟨t, htt⟩ : ∃ t, l[i] = t := ⟨_, rfl⟩
      obtain ⟨u, huu⟩ : ∃ u, L[i] = u := ⟨_, rfl⟩
      obtain ⟨m, hm⟩ : ∃ m, ms[i] = m := ⟨_, rfl⟩
      obtain ⟨gm, hgm⟩ : ∃ m, gs[i] = m := ⟨_, rfl⟩
      have hci2 := hc2 i hig
      rw [htt] at t1 hnorm hkind
      rw [huu] at u1 hnorm r1 r2 r3 r4 hslim
      rw [hm] at t1 hc1
      rw [hgm] at u1 hci2
      obtain ⟨kd, nm, ta, tn, tc, tx, at1⟩ := m
      obtain ⟨x1, x2, x3, x4, x5, x6, _, _⟩ := t1
      simp only at x1 x2 x3 x4 x5 x6
      subst x1 x2 x3 x4
      obtain ⟨gk, gnm, ga, gn, gc, gtx, gat⟩ := gm
      obtain ⟨y1, y2, y3, y4, y5⟩ := u1
      simp only at y1 y2 y3 y4 y5
      subst y1 y2 y3 y4
      have c0 : wr.cell? ⟨g1, o1 + i * 5, none⟩ = some (.int .i64 t.kind) := cell_kept (hc1 0 (by decide)) hB
      have c1 : wr.cell? ⟨g1, o1 + i * 5 + 1, none⟩ = some (.string t.name) := cell_kept (hc1 1 (by decide)) hB
      have c2 : wr.cell? ⟨g1, o1 + i * 5 + 2, none⟩ = some (.slice ta tn tc) := cell_kept (hc1 2 (by decide)) hB
      have c3 : wr.cell? ⟨g1, o1 + i * 5 + 3, none⟩ = some (.string t.text) := cell_kept (hc1 3 (by decide)) hB
      have c4 : wr.cell? ⟨g1, o1 + i * 5 + 4, none⟩ = some (.int .i64 t.at_) := cell_kept (hc1 4 (by decide)) hB
      have hGC : ∀ W, Below w5.heap.size w5 W → W.cell? ⟨g2, i * 5, none⟩ = some (.int .i64 u.kind) ∧ W.cell? ⟨g2, i * 5 + 1, none⟩ = some (.string u.name) ∧ W.cell? ⟨g2, i * 5 + 2, none⟩ = some (.slice ga gn gc) ∧ W.cell? ⟨g2, i * 5 + 3, none⟩ = some (.string u.text) ∧ W.cell? ⟨g2, i * 5 + 4, none⟩ = some (.int .i64 (u.at_ : Int)) := fun W hW =>
        ⟨cell_kept (hci2 0 (by decide)) hW, cell_kept (hci2 1 (by decide)) hW, cell_kept (hci2 2 (by decide)) hW, cell_kept (hci2 3 (by decide)) hW, cell_kept (hci2 4 (by decide)) hW⟩
      have HGC := Lib.hid hGC
      have HX5 := Lib.hid x5; have HY5 := Lib.hid y5.at'
      have hTB : (wr.alloc (.cells #[.int .i64 t.kind, .string t.name, .slice ta tn tc, .string t.text, .int .i64 t.at_] 27)).heap[wr.heap.size]? = some (.cells #[.int .i64 t.kind, .string t.name, .slice ta tn tc, .string t.text, .int .i64 t.at_] 27 (0, 0)) := new_at _ _
      have hAL : Below wr.heap.size wr (wr.alloc (.cells #[.int .i64 t.kind, .string t.name, .slice ta tn tc, .string t.text, .int .i64 t.at_] 27)) := (Below.refl _ _).alloc (Nat.le_refl _) _
      have HTB := Lib.hid hTB; have HB8 := Lib.hid (hB.trans (hAL.mono hB.size)); have HLT := Lib.hid hlt; have HR4 := Lib.hid r4
      have HZ8 := Lib.hid (show w5.heap.size ≤ wr.heap.size from hB.size)
      have q1 : ¬ ((u.at_ : Int) < (at_ : Int)) := by omega
      have q2 : ¬ ((pb.size : Int) ≤ (u.at_ : Int)) := by omega
      have q3 : (u.at_ : Int) < (pb.size : Int) := by omega
      have q4 : decide ((u.at_ : Int) < (at_ : Int)) = false := decide_eq_false q1
      have q6 : decide (u.at_ < at_) = false := decide_eq_false (by omega)
      have q7 : decide (pb.size ≤ u.at_) = false := decide_eq_false (by omega)
      have q5 : decide ((pb.size : Int) ≤ (u.at_ : Int)) = false := decide_eq_false q2
      have HNORM := Lib.hid hnorm
      have huan : u.attrs.length ≤ 100000 := by have := wtL_len (f := wtAt) (k := 3) (fun x => by unfold wtAt; omega) u.attrs; omega
      clear hc1 hg1 hca hms hml hm htt huu hgm hci2 hc2 hg2 hgrow hgl hgs x5 x6 y5 hGC hTB hAL hd hnorm hlki hil hiL hilk him hig r1 r2 r3 r4 hB hg hi hlt hslim
      go_upto_region 14 with fail
      generalize hw8 : wr.alloc (.cells #[.int .i64 t.kind, .string t.name, .slice ta tn tc, .string t.text, .int .i64 t.at_] 27) = w8 at *
      generalize htb : wr.heap.size = tb at *
      clear hw8 htb c0 c1 c2 c3 c4
      have b0 : w8.cell? ⟨tb, 0, none⟩ = some (.int .i64 t.kind) := cellH HTB.out 0
      have hAQ : Below w8.heap.size w8 (w8.alloc (.cells #[.int .i64 t.kind, .string ⟨#[]⟩, .slice none 0 0, .string ⟨#[]⟩, .int .i64 0] 27)) := (Below.refl _ _).alloc (Nat.le_refl _) _
      have hQ : (w8.alloc (.cells #[.int .i64 t.kind, .string ⟨#[]⟩, .slice none 0 0, .string ⟨#[]⟩, .int .i64 0] 27)).heap[w8.heap.size]? = some (.cells #[.int .i64 t.kind, .string ⟨#[]⟩, .slice none 0 0, .string ⟨#[]⟩, .int .i64 0] 27 (0, 0)) := new_at _ _
      have HQ := Lib.hid hQ; have HB9 := Lib.hid (HB8.out.trans (hAQ.mono HB8.out.size))
      have HTB9 := Lib.hid ((hAQ.block tb (lt_some HTB.out)).trans HTB.out)
      have HQT := Lib.hid (show tb < w8.heap.size from lt_some HTB.out)
      clear hAQ hQ
      go_upto_region 15 with fail
      generalize hw9 : w8.alloc (.cells #[.int .i64 t.kind, .string ⟨#[]⟩, .slice none 0 0, .string ⟨#[]⟩, .int .i64 0] 27) = w9 at *
      generalize hqb : w8.heap.size = qb at *
      clear hw9 hqb b0
      have HZ9 := Lib.hid (show w5.heap.size ≤ tb ∧ tb < qb from ⟨HZ8.out, HQT.out⟩)
      have b0 : w9.cell? ⟨tb, 0, none⟩ = some (.int .i64 t.kind) := cellH HTB9.out 0
      have b1 : w9.cell? ⟨tb, 1, none⟩ = some (.string t.name) := cellH HTB9.out 1
      have b2 : w9.cell? ⟨tb, 2, none⟩ = some (.slice ta tn tc) := cellH HTB9.out 2
      have b3 : w9.cell? ⟨tb, 3, none⟩ = some (.string t.text) := cellH HTB9.out 3
      have z1 : w9.cell? ⟨qb, 1, none⟩ = some (.string ⟨#[]⟩) := cellH HQ.out 1
      have z2 : w9.cell? ⟨qb, 2, none⟩ = some (.slice none 0 0) := cellH HQ.out 2
      have z3 : w9.cell? ⟨qb, 3, none⟩ = some (.string ⟨#[]⟩) := cellH HQ.out 3
      have fq : ∀ j, w9.frozen? ⟨qb, j, none⟩ = false := fun j => freeH HQ.out j
      have fq1 := fq 1; have fq2 := fq 2; have fq3 := fq 3
      clear fq
      rcases hkind with hk | hk | hk
      · have hk' : t.kind = 1 := hk
        rw [hk'] at b0 HQ HTB HTB9
        have hu : u.kind = 1 ∧ u.name = t.name ∧ u.attrs = t.attrs ∧ u.text = ⟨#[]⟩ := by
          have h := HNORM.out
          unfold normT noAt toTk at h
          simp only [hk'] at h
          simp only [if_true] at h
          injection h with h1 h2 h3 h4 h5
          exact ⟨h1, h2, h3, h4⟩
        obtain ⟨hu1, hu2, hu3, hu4⟩ := hu
        have hQ9 : (((w9.setCell ⟨qb, 1, none⟩ (.string t.name)).setCell ⟨qb, 2, none⟩ (.slice ta tn tc)).drew).heap[qb]? = some (.cells #[.int .i64 1, .string t.name, .slice ta tn tc, .string ⟨#[]⟩, .int .i64 0] 27 (0, 0)) := setH (setH HQ.out 1 _) 2 _
        have hBQ : Below w5.heap.size w5 (((w9.setCell ⟨qb, 1, none⟩ (.string t.name)).setCell ⟨qb, 2, none⟩ (.slice ta tn tc)).drew) := (below_set (below_set HB9.out (by have := HZ9.out; omega)) (by have := HZ9.out; omega)).drew
        have HQ9 := Lib.hid hQ9; have HBQ := Lib.hid hBQ
        clear hQ9 hBQ
        have hS18 : w9.drew.cell? ⟨tb, 1, none⟩ = some (.string t.name) ∧ w9.drew.cell? ⟨tb, 2, none⟩ = some (.slice ta tn tc) := ⟨b1, b2⟩
        have HS18 := Lib.hid hS18
        have HN18 := Lib.hid (show tb ≠ qb from by have := HZ9.out; omega)
        clear hS18
        go_upto_region 18 with fail
        refine wp_region_held_drew (S := fun w' => w'.cell? ⟨tb, 1, none⟩ = some (Value.string t.name) ∧ w'.cell? ⟨tb, 2, none⟩ = some (Value.slice ta tn tc)) (by kernel_rfl) (HS18.out) (fun hHeld => ?_)
        refine tkH 0 hHeld ?_
        refine tkH 1 hHeld ?_
        refine tkH 2 hHeld ?_
        refine tkH 3 hHeld ?_
        refine tkH 4 hHeld ?_
        refine wpAnyH_ready (rs := [5]) (by kernel_rfl) (by simp) ?_
        refine AllReadyH.cons rfl (fun K hK => ?_) AllReadyH.nil
        go_simp
        refine hK.out _ _ ((⟨(World.cell?_setCell_far _ _ _ _ (fun e => HN18.out e.symm)).trans HS18.out.1, (World.cell?_setCell_far _ _ _ _ (fun e => HN18.out e.symm)).trans HS18.out.2⟩ : _ ∧ _)) (fun hHeld => ?_)
        clear hK K
        refine tkH 6 hHeld ?_
        refine wpAnyH_ready (rs := [7]) (by kernel_rfl) (by simp) ?_
        refine AllReadyH.cons rfl (fun K hK => ?_) AllReadyH.nil
        go_simp
        refine hK.out _ _ ((⟨(World.cell?_setCell_far _ _ _ _ (fun e => HN18.out e.symm)).trans ((World.cell?_setCell_far _ _ _ _ (fun e => HN18.out e.symm)).trans HS18.out.1), (World.cell?_setCell_far _ _ _ _ (fun e => HN18.out e.symm)).trans ((World.cell?_setCell_far _ _ _ _ (fun e => HN18.out e.symm)).trans HS18.out.2)⟩ : _ ∧ _)) (fun hHeld => ?_)
        clear hK K
        refine wpAnyH_done (by kernel_rfl) ?_ _
        go_upto_region 21 with fail
        generalize hwq : ((w9.setCell ⟨qb, 1, none⟩ (.string t.name)).setCell ⟨qb, 2, none⟩ (.slice ta tn tc)).drew = wq at *
        clear hwq b0 b1 b2 b3 z1 z2 z3 fq1 fq2 fq3
        have HSON := Lib.hid (show ∀ w', Below wq.heap.size wq w' → w'.cell? ⟨g2, i * 5, none⟩ = some (Value.int .i64 1) ∧ w'.cell? ⟨g2, i * 5 + 1, none⟩ = some (Value.string t.name) ∧ w'.cell? ⟨g2, i * 5 + 2, none⟩ = some (Value.slice ga gn gc) ∧ w'.cell? ⟨g2, i * 5 + 3, none⟩ = some (Value.string ⟨#[]⟩) ∧ w'.cell? ⟨g2, i * 5 + 4, none⟩ = some (Value.int .i64 (u.at_ : Int)) ∧ w'.cell? ⟨qb, 0, none⟩ = some (Value.int .i64 1) ∧ w'.cell? ⟨qb, 1, none⟩ = some (Value.string t.name) ∧ w'.cell? ⟨qb, 2, none⟩ = some (Value.slice ta tn tc) ∧ w'.cell? ⟨qb, 3, none⟩ = some (Value.string ⟨#[]⟩) ∧ w'.cell? ⟨qb, 4, none⟩ = some (Value.int .i64 0) ∧ Below wq.heap.size wq w' from fun w' hB' => by
          have h := HGC.out w' (HBQ.out.trans (hB'.mono HBQ.out.size))
          rw [hu1, hu2, hu4] at h
          have hq := (hB'.block qb (lt_some HQ9.out)).trans HQ9.out
          exact ⟨h.1, h.2.1, h.2.2.1, h.2.2.2.1, h.2.2.2.2, cellH hq 0, cellH hq 1, cellH hq 2, cellH hq 3, cellH hq 4, hB'⟩)
        have HONE := Lib.hid (show ∀ W, Below wq.heap.size wq W → Calls Tryz.prog 19 #[.agg #[.int .i64 1, .string t.name, .slice ga gn gc, .string ⟨#[]⟩, .int .i64 (u.at_ : Int)], .agg #[.int .i64 1, .string t.name, .slice ta tn tc, .string ⟨#[]⟩, .int .i64 0], .bool false] W fun e w' => e = .returned (.bool true) ∧ Below W.heap.size W w' from fun W hBW => by
          have hBB := HBQ.out.trans (hBW.mono HBQ.out.size)
          have hy := HY5.out.on hBB
          rw [hu3] at hy
          exact onei_yes W _ _ _ _ _ t.attrs _ 0 false (fun e => by cases e) hy (HX5.out.on hBB) (by rw [← hu3]; unfold maxLen; omega))
        refine wp_region_held_drew (S := fun w' => w'.cell? ⟨g2, i * 5, none⟩ = some (Value.int .i64 1) ∧ w'.cell? ⟨g2, i * 5 + 1, none⟩ = some (Value.string t.name) ∧ w'.cell? ⟨g2, i * 5 + 2, none⟩ = some (Value.slice ga gn gc) ∧ w'.cell? ⟨g2, i * 5 + 3, none⟩ = some (Value.string ⟨#[]⟩) ∧ w'.cell? ⟨g2, i * 5 + 4, none⟩ = some (Value.int .i64 (u.at_ : Int)) ∧ w'.cell? ⟨qb, 0, none⟩ = some (Value.int .i64 1) ∧ w'.cell? ⟨qb, 1, none⟩ = some (Value.string t.name) ∧ w'.cell? ⟨qb, 2, none⟩ = some (Value.slice ta tn tc) ∧ w'.cell? ⟨qb, 3, none⟩ = some (Value.string ⟨#[]⟩) ∧ w'.cell? ⟨qb, 4, none⟩ = some (Value.int .i64 0) ∧ Below wq.heap.size wq w') (by kernel_rfl) (HSON.out _ (Below.refl _ _).drew) (fun hHeld => ?_)
        refine tkH 0 hHeld ?_
        refine tkH 1 hHeld ?_
        refine tkH 2 hHeld ?_
        refine tkH 3 hHeld ?_
        refine tkH 4 hHeld ?_
        refine wpAnyH_ready (rs := [5]) (by kernel_rfl) (by simp) ?_
        refine AllReadyH.cons rfl (fun K hK => ?_) AllReadyH.nil
        go_simp
        go_wp2_with (go_at_call 19; refine (HONE.out wq.drew (Below.refl _ _).drew).mono ?_; rintro en wz ⟨rfl, hBz⟩; have hSz := HSON.out wz ((Below.refl _ _).drew.trans (hBz.mono (Nat.le_refl _))))
        refine hK.out _ _ (hSz) (fun hHeld => ?_)
        clear hK K
        refine tkH 6 hHeld ?_ (hw := by kernel_rfl)
        refine tkH 7 hHeld ?_ (hw := by kernel_rfl)
        refine tkH 8 hHeld ?_ (hw := by kernel_rfl)
        refine tkH 9 hHeld ?_ (hw := by kernel_rfl)
        refine tkH 10 hHeld ?_ (hw := by kernel_rfl)
        refine tkH 11 hHeld ?_ (hw := by kernel_rfl)
        refine tkH 12 hHeld ?_ (hw := by kernel_rfl)
        refine tkH 13 hHeld ?_ (hw := by kernel_rfl)
        refine tkH 14 hHeld ?_ (hw := by kernel_rfl)
        refine tkH 15 hHeld ?_ (hw := by kernel_rfl)
        refine tkH 16 hHeld ?_ (hw := by kernel_rfl)
        refine tkH 17 hHeld ?_ (hw := by kernel_rfl)
        refine tkH 18 hHeld ?_ (hw := by kernel_rfl)
        refine tkH 19 hHeld ?_ (hw := by kernel_rfl)
        refine tkH 20 hHeld ?_ (hw := by kernel_rfl)
        refine tkH 21 hHeld ?_ (hw := by kernel_rfl)
        refine tkH 22 hHeld ?_ (hw := by kernel_rfl)
        refine tkH 23 hHeld ?_ (hw := by kernel_rfl)
        refine tkH 24 hHeld ?_ (hw := by kernel_rfl)
        refine tkH 25 hHeld ?_ (hw := by kernel_rfl)
        refine wpAnyH_done (by kernel_rfl) ?_ _
        have HBZ := Lib.hid (HBQ.out.trans (hSz.2.2.2.2.2.2.2.2.2.2.mono HBQ.out.size))
        have zz := hSz.2.2.2.2.1
        clear hHeld hSz hBz
        go_wp2_with fail
        go_roundg (on - i)
        case rel => exact ⟨i + 1, u.at_, rfl, by simp, by have := HG2.out; have := HLT.out; omega, HLT.out, HR4.out, HBZ.out⟩
        case measure => have := HG2.out; have := HLT.out; omega
      · have hk' : t.kind = 2 := hk
        rw [hk'] at b0 HQ HTB HTB9
        have hu : u.kind = 2 ∧ u.name = t.name ∧ u.attrs = [] ∧ u.text = ⟨#[]⟩ := by
          have h := HNORM.out
          unfold normT noAt toTk at h
          simp only [hk'] at h
          simp only [n21, if_false, if_true] at h
          injection h with h1 h2 h3 h4 h5
          exact ⟨h1, h2, h3, h4⟩
        obtain ⟨hu1, hu2, hu3, hu4⟩ := hu
        have hQ9 : (w9.setCell ⟨qb, 1, none⟩ (.string t.name)).heap[qb]? = some (.cells #[.int .i64 2, .string t.name, .slice none 0 0, .string ⟨#[]⟩, .int .i64 0] 27 (0, 0)) := setH HQ.out 1 _
        have hBQ : Below w5.heap.size w5 (w9.setCell ⟨qb, 1, none⟩ (.string t.name)) := below_set HB9.out (by have := HZ9.out; omega)
        have HQ9 := Lib.hid hQ9; have HBQ := Lib.hid hBQ
        clear hQ9 hBQ
        go_upto_region 21 with fail
        generalize hwq : w9.setCell ⟨qb, 1, none⟩ (.string t.name) = wq at *
        clear hwq b0 b1 b2 b3 z1 z2 z3 fq1 fq2 fq3
        have HSON := Lib.hid (show ∀ w', Below wq.heap.size wq w' → w'.cell? ⟨g2, i * 5, none⟩ = some (Value.int .i64 2) ∧ w'.cell? ⟨g2, i * 5 + 1, none⟩ = some (Value.string t.name) ∧ w'.cell? ⟨g2, i * 5 + 2, none⟩ = some (Value.slice ga gn gc) ∧ w'.cell? ⟨g2, i * 5 + 3, none⟩ = some (Value.string ⟨#[]⟩) ∧ w'.cell? ⟨g2, i * 5 + 4, none⟩ = some (Value.int .i64 (u.at_ : Int)) ∧ w'.cell? ⟨qb, 0, none⟩ = some (Value.int .i64 2) ∧ w'.cell? ⟨qb, 1, none⟩ = some (Value.string t.name) ∧ w'.cell? ⟨qb, 2, none⟩ = some (Value.slice none 0 0) ∧ w'.cell? ⟨qb, 3, none⟩ = some (Value.string ⟨#[]⟩) ∧ w'.cell? ⟨qb, 4, none⟩ = some (Value.int .i64 0) ∧ Below wq.heap.size wq w' from fun w' hB' => by
          have h := HGC.out w' (HBQ.out.trans (hB'.mono HBQ.out.size))
          rw [hu1, hu2, hu4] at h
          have hq := (hB'.block qb (lt_some HQ9.out)).trans HQ9.out
          exact ⟨h.1, h.2.1, h.2.2.1, h.2.2.2.1, h.2.2.2.2, cellH hq 0, cellH hq 1, cellH hq 2, cellH hq 3, cellH hq 4, hB'⟩)
        have HONE := Lib.hid (show ∀ W, Below wq.heap.size wq W → Calls Tryz.prog 19 #[.agg #[.int .i64 2, .string t.name, .slice ga gn gc, .string ⟨#[]⟩, .int .i64 (u.at_ : Int)], .agg #[.int .i64 2, .string t.name, .slice none 0 0, .string ⟨#[]⟩, .int .i64 0], .bool false] W fun e w' => e = .returned (.bool true) ∧ Below W.heap.size W w' from fun W hBW => by
          have hBB := HBQ.out.trans (hBW.mono HBQ.out.size)
          have hy := HY5.out.on hBB
          rw [hu3] at hy
          exact onei_yes W _ _ _ _ _ [] _ 0 false (fun e => by cases e) hy (GAt.nil' _ _) (by simp))
        refine wp_region_held_drew (S := fun w' => w'.cell? ⟨g2, i * 5, none⟩ = some (Value.int .i64 2) ∧ w'.cell? ⟨g2, i * 5 + 1, none⟩ = some (Value.string t.name) ∧ w'.cell? ⟨g2, i * 5 + 2, none⟩ = some (Value.slice ga gn gc) ∧ w'.cell? ⟨g2, i * 5 + 3, none⟩ = some (Value.string ⟨#[]⟩) ∧ w'.cell? ⟨g2, i * 5 + 4, none⟩ = some (Value.int .i64 (u.at_ : Int)) ∧ w'.cell? ⟨qb, 0, none⟩ = some (Value.int .i64 2) ∧ w'.cell? ⟨qb, 1, none⟩ = some (Value.string t.name) ∧ w'.cell? ⟨qb, 2, none⟩ = some (Value.slice none 0 0) ∧ w'.cell? ⟨qb, 3, none⟩ = some (Value.string ⟨#[]⟩) ∧ w'.cell? ⟨qb, 4, none⟩ = some (Value.int .i64 0) ∧ Below wq.heap.size wq w') (by kernel_rfl) (HSON.out _ (Below.refl _ _).drew) (fun hHeld => ?_)
        refine tkH 0 hHeld ?_
        refine tkH 1 hHeld ?_
        refine tkH 2 hHeld ?_
        refine tkH 3 hHeld ?_
        refine tkH 4 hHeld ?_
        refine wpAnyH_ready (rs := [5]) (by kernel_rfl) (by simp) ?_
        refine AllReadyH.cons rfl (fun K hK => ?_) AllReadyH.nil
        go_simp
        go_wp2_with (go_at_call 19; refine (HONE.out wq.drew (Below.refl _ _).drew).mono ?_; rintro en wz ⟨rfl, hBz⟩; have hSz := HSON.out wz ((Below.refl _ _).drew.trans (hBz.mono (Nat.le_refl _))))
        refine hK.out _ _ (hSz) (fun hHeld => ?_)
        clear hK K
        refine tkH 6 hHeld ?_ (hw := by kernel_rfl)
        refine tkH 7 hHeld ?_ (hw := by kernel_rfl)
        refine tkH 8 hHeld ?_ (hw := by kernel_rfl)
        refine tkH 9 hHeld ?_ (hw := by kernel_rfl)
        refine tkH 10 hHeld ?_ (hw := by kernel_rfl)
        refine tkH 11 hHeld ?_ (hw := by kernel_rfl)
        refine tkH 12 hHeld ?_ (hw := by kernel_rfl)
        refine tkH 13 hHeld ?_ (hw := by kernel_rfl)
        refine tkH 14 hHeld ?_ (hw := by kernel_rfl)
        refine tkH 15 hHeld ?_ (hw := by kernel_rfl)
        refine tkH 16 hHeld ?_ (hw := by kernel_rfl)
        refine tkH 17 hHeld ?_ (hw := by kernel_rfl)
        refine tkH 18 hHeld ?_ (hw := by kernel_rfl)
        refine tkH 19 hHeld ?_ (hw := by kernel_rfl)
        refine tkH 20 hHeld ?_ (hw := by kernel_rfl)
        refine tkH 21 hHeld ?_ (hw := by kernel_rfl)
        refine tkH 22 hHeld ?_ (hw := by kernel_rfl)
        refine tkH 23 hHeld ?_ (hw := by kernel_rfl)
        refine tkH 24 hHeld ?_ (hw := by kernel_rfl)
        refine tkH 25 hHeld ?_ (hw := by kernel_rfl)
        refine wpAnyH_done (by kernel_rfl) ?_ _
        have HBZ := Lib.hid (HBQ.out.trans (hSz.2.2.2.2.2.2.2.2.2.2.mono HBQ.out.size))
        have zz := hSz.2.2.2.2.1
        clear hHeld hSz hBz
        go_wp2_with fail
        go_roundg (on - i)
        case rel => exact ⟨i + 1, u.at_, rfl, by simp, by have := HG2.out; have := HLT.out; omega, HLT.out, HR4.out, HBZ.out⟩
        case measure => have := HG2.out; have := HLT.out; omega
      · have hk' : t.kind = 3 := hk
        rw [hk'] at b0 HQ HTB HTB9
        have hu : u.kind = 3 ∧ u.name = ⟨#[]⟩ ∧ u.attrs = [] ∧ u.text = t.text := by
          have h := HNORM.out
          unfold normT noAt toTk at h
          simp only [hk'] at h
          rw [if_neg n31, if_neg n32] at h
          injection h with h1 h2 h3 h4 h5
          exact ⟨h1, h2, h3, h4⟩
        obtain ⟨hu1, hu2, hu3, hu4⟩ := hu
        have hQ9 : (w9.setCell ⟨qb, 3, none⟩ (.string t.text)).heap[qb]? = some (.cells #[.int .i64 3, .string ⟨#[]⟩, .slice none 0 0, .string t.text, .int .i64 0] 27 (0, 0)) := setH HQ.out 3 _
        have hBQ : Below w5.heap.size w5 (w9.setCell ⟨qb, 3, none⟩ (.string t.text)) := below_set HB9.out (by have := HZ9.out; omega)
        have HQ9 := Lib.hid hQ9; have HBQ := Lib.hid hBQ
        clear hQ9 hBQ
        go_upto_region 21 with fail
        generalize hwq : w9.setCell ⟨qb, 3, none⟩ (.string t.text) = wq at *
        clear hwq b0 b1 b2 b3 z1 z2 z3 fq1 fq2 fq3
        have HSON := Lib.hid (show ∀ w', Below wq.heap.size wq w' → w'.cell? ⟨g2, i * 5, none⟩ = some (Value.int .i64 3) ∧ w'.cell? ⟨g2, i * 5 + 1, none⟩ = some (Value.string ⟨#[]⟩) ∧ w'.cell? ⟨g2, i * 5 + 2, none⟩ = some (Value.slice ga gn gc) ∧ w'.cell? ⟨g2, i * 5 + 3, none⟩ = some (Value.string t.text) ∧ w'.cell? ⟨g2, i * 5 + 4, none⟩ = some (Value.int .i64 (u.at_ : Int)) ∧ w'.cell? ⟨qb, 0, none⟩ = some (Value.int .i64 3) ∧ w'.cell? ⟨qb, 1, none⟩ = some (Value.string ⟨#[]⟩) ∧ w'.cell? ⟨qb, 2, none⟩ = some (Value.slice none 0 0) ∧ w'.cell? ⟨qb, 3, none⟩ = some (Value.string t.text) ∧ w'.cell? ⟨qb, 4, none⟩ = some (Value.int .i64 0) ∧ Below wq.heap.size wq w' from fun w' hB' => by
          have h := HGC.out w' (HBQ.out.trans (hB'.mono HBQ.out.size))
          rw [hu1, hu2, hu4] at h
          have hq := (hB'.block qb (lt_some HQ9.out)).trans HQ9.out
          exact ⟨h.1, h.2.1, h.2.2.1, h.2.2.2.1, h.2.2.2.2, cellH hq 0, cellH hq 1, cellH hq 2, cellH hq 3, cellH hq 4, hB'⟩)
        have HONE := Lib.hid (show ∀ W, Below wq.heap.size wq W → Calls Tryz.prog 19 #[.agg #[.int .i64 3, .string ⟨#[]⟩, .slice ga gn gc, .string t.text, .int .i64 (u.at_ : Int)], .agg #[.int .i64 3, .string ⟨#[]⟩, .slice none 0 0, .string t.text, .int .i64 0], .bool false] W fun e w' => e = .returned (.bool true) ∧ Below W.heap.size W w' from fun W hBW => by
          have hBB := HBQ.out.trans (hBW.mono HBQ.out.size)
          have hy := HY5.out.on hBB
          rw [hu3] at hy
          exact onei_yes W _ _ _ _ _ [] _ 0 false (fun e => by cases e) hy (GAt.nil' _ _) (by simp))
        refine wp_region_held_drew (S := fun w' => w'.cell? ⟨g2, i * 5, none⟩ = some (Value.int .i64 3) ∧ w'.cell? ⟨g2, i * 5 + 1, none⟩ = some (Value.string ⟨#[]⟩) ∧ w'.cell? ⟨g2, i * 5 + 2, none⟩ = some (Value.slice ga gn gc) ∧ w'.cell? ⟨g2, i * 5 + 3, none⟩ = some (Value.string t.text) ∧ w'.cell? ⟨g2, i * 5 + 4, none⟩ = some (Value.int .i64 (u.at_ : Int)) ∧ w'.cell? ⟨qb, 0, none⟩ = some (Value.int .i64 3) ∧ w'.cell? ⟨qb, 1, none⟩ = some (Value.string ⟨#[]⟩) ∧ w'.cell? ⟨qb, 2, none⟩ = some (Value.slice none 0 0) ∧ w'.cell? ⟨qb, 3, none⟩ = some (Value.string t.text) ∧ w'.cell? ⟨qb, 4, none⟩ = some (Value.int .i64 0) ∧ Below wq.heap.size wq w') (by kernel_rfl) (HSON.out _ (Below.refl _ _).drew) (fun hHeld => ?_)
        refine tkH 0 hHeld ?_
        refine tkH 1 hHeld ?_
        refine tkH 2 hHeld ?_
        refine tkH 3 hHeld ?_
        refine tkH 4 hHeld ?_
        refine wpAnyH_ready (rs := [5]) (by kernel_rfl) (by simp) ?_
        refine AllReadyH.cons rfl (fun K hK => ?_) AllReadyH.nil
        go_simp
        go_wp2_with (go_at_call 19; refine (HONE.out wq.drew (Below.refl _ _).drew).mono ?_; rintro en wz ⟨rfl, hBz⟩; have hSz := HSON.out wz ((Below.refl _ _).drew.trans (hBz.mono (Nat.le_refl _))))
        refine hK.out _ _ (hSz) (fun hHeld => ?_)
        clear hK K
        refine tkH 6 hHeld ?_ (hw := by kernel_rfl)
        refine tkH 7 hHeld ?_ (hw := by kernel_rfl)
        refine tkH 8 hHeld ?_ (hw := by kernel_rfl)
        refine tkH 9 hHeld ?_ (hw := by kernel_rfl)
        refine tkH 10 hHeld ?_ (hw := by kernel_rfl)
        refine tkH 11 hHeld ?_ (hw := by kernel_rfl)
        refine tkH 12 hHeld ?_ (hw := by kernel_rfl)
        refine tkH 13 hHeld ?_ (hw := by kernel_rfl)
        refine tkH 14 hHeld ?_ (hw := by kernel_rfl)
        refine tkH 15 hHeld ?_ (hw := by kernel_rfl)
        refine tkH 16 hHeld ?_ (hw := by kernel_rfl)
        refine tkH 17 hHeld ?_ (hw := by kernel_rfl)
        refine tkH 18 hHeld ?_ (hw := by kernel_rfl)
        refine tkH 19 hHeld ?_ (hw := by kernel_rfl)
        refine tkH 20 hHeld ?_ (hw := by kernel_rfl)
        refine tkH 21 hHeld ?_ (hw := by kernel_rfl)
        refine tkH 22 hHeld ?_ (hw := by kernel_rfl)
        refine tkH 23 hHeld ?_ (hw := by kernel_rfl)
        refine tkH 24 hHeld ?_ (hw := by kernel_rfl)
        refine tkH 25 hHeld ?_ (hw := by kernel_rfl)
        refine wpAnyH_done (by kernel_rfl) ?_ _
        have HBZ := Lib.hid (HBQ.out.trans (hSz.2.2.2.2.2.2.2.2.2.2.mono HBQ.out.size))
        have zz := hSz.2.2.2.2.1
        clear hHeld hSz hBz
        go_wp2_with fail
        go_roundg (on - i)
        case rel => exact ⟨i + 1, u.at_, rfl, by simp, by have := HG2.out; have := HLT.out; omega, HLT.out, HR4.out, HBZ.out⟩
        case measure => have := HG2.out; have := HLT.out; omega
    · have hiI : ¬ (i : Int) < on := by omega
      have hpr := HPRT.out wr (.slice oa on oc) (HO5.out.win.on hB)
      rw [HE3.out, HE4.out] at hpr
      have HPR := Lib.hid hpr
      have hself := bytes_eqb pb pb
      rw [decide_eq_true rfl] at hself
      clear hpr hg hi hR
      go_wp2_with fail
      refine HPR.out.mono ?_
      rintro e w6 ⟨rfl, hB6⟩
      have HE := Lib.hid (HB5.out.trans ((HB.out.trans (hB6.mono HB.out.size)).mono HB5.out.size))
      clear hB6
      go_wp2_with fail
      go_ret
      exact ⟨rfl, HE.out⟩
end Go.Proofs.YtdipbfchlopeaaaGreatDoor
