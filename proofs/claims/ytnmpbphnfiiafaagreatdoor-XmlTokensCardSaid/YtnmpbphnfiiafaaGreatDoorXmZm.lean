/-
  The reference: texts XmQl, XmQm.
-/
import Derived.Test.YtnmpbphnfiiafaaGreatDoorXmQk
namespace Go.Proofs.YtnmpbphnfiiafaaGreatDoor
section
open Go.RowKit Go.PlainAid

/-- What tell comes to. -/
def RTell (lo cb : Nat) (s : ByteArray) (p : Nat) (pv : Value) (pile : List ByteArray) (w : World) (x : Xr (List Tk)) (en : Ending) (w' : World) : Prop :=
  match x with
  | .bad e a => e ≠ 0 ∧ en = .returned (.tuple #[]) ∧ (∃ c4 c6 c7, Scn cb s p e (a : Int) c4 pv c6 c7 w') ∧ KeepX lo cb w w'
  | .ok _ out => en = .returned (.tuple #[]) ∧ KeepX lo cb w w' ∧ ∃ ov, Scn cb s p 0 0 ov pv (.slice none 0 0) (.int .i64 (-1)) w' ∧ ScR lo ov pv (.slice none 0 0) out pile [] w'
section
set_option maxRecDepth 100000
set_option maxHeartbeats 8000000
theorem tell_S {cb : Nat} {s : ByteArray} {p : Nat} {e b : Int} {c4 c5 tv c7 : Value} {W : World} {t : ByteArray} (h : Scn cb s p e b c4 c5 tv c7 W) (hc : (convert 60 9 tv).run Tryz.prog W = .ok (.string t) W) : W.cell? ⟨cb, 4, none⟩ = some c4 ∧ W.cell? ⟨cb, 6, none⟩ = some tv ∧ W.cell? ⟨cb, 7, none⟩ = some c7 ∧ (convert 60 9 tv).run Tryz.prog W = .ok (.string t) W := ⟨h.cell4, h.cell6, h.cell7, hc⟩
theorem rTell_any {lo cb : Nat} {s : ByteArray} {p : Nat} {ov pv tv : Value} {fr : Option Nat} {out : List Tk} {pile : List ByteArray} {text : List UInt8} {w : World} (h : Scn cb s p 0 0 ov pv tv (.int .i64 (frI fr)) w) (hR : ScR lo ov pv tv out pile text w) (hcb : cb < lo) (hol : out.length ≤ 10000000) (hf0 : fr = none → text = []) :
    Calls Tryz.prog 63 #[.pointer (some ⟨cb, 0, none⟩)] w fun en w' => RTell lo cb s p pv pile w (tellX out ⟨text.toArray⟩ fr) en w' := by
  cases fr with
  | none =>
    have ht := hf0 rfl
    subst ht
    have c7 : w.cell? ⟨cb, 7, none⟩ = some (.int .i64 (-1)) := h.cell7
    have c6 := h.cell6
    have f6 := h.free 6
    have f7 := h.free 7
    have h6 := h.set6 (.slice none 0 0)
    have f7' := h6.free 7
    have c7' : (w.setCell ⟨cb, 6, none⟩ (.slice none 0 0)).cell? ⟨cb, 7, none⟩ = some (.int .i64 (-1)) := h6.cell7
    have HF := Lib.hid (And.intro (h6.set7 (.int .i64 (-1))) (And.intro ((hR.noText.set hcb 6 (.slice none 0 0)).set hcb 7 (.int .i64 (-1))) (((KeepX.refl lo cb w).setCell 6 (.slice none 0 0)).setCell 7 (.int .i64 (-1)))))
    clear h hR h6
    go_enter Tryz.func63, Tryz.ntmps63
    go_wp2_with fail
    first | go_end0 | refine bodyPost_ret (results_none rfl _ _ _) rfl ?_
    unfold RTell tellX
    exact ⟨rfl, HF.out.2.2, _, HF.out.1, HF.out.2.1⟩
  | some a =>
    have c7 : w.cell? ⟨cb, 7, none⟩ = some (.int .i64 (a : Int)) := h.cell7
    have c6 := h.cell6
    have ha0 : (0 : Int) ≤ (a : Int) := by omega
    obtain ⟨ta, tc, htv⟩ := hR.text.form
    subst htv
    by_cases hlong : 4096 < text.length
    · have hI : (4096 : Int) < (text.length : Int) := by omega
      have hx : tellX out ⟨text.toArray⟩ (some a) = .bad 3 a := by unfold tellX; simp only; exact if_pos hlong
      rw [hx]
      have hwf := wrong_first h 3 (a : Int)
      have hm := h.mark 3 (a : Int)
      have hk := ((KeepX.refl lo cb w).setCell 2 (.int .i64 3)).setCell 3 (.int .i64 (a : Int))
      obtain ⟨w2, hw2⟩ : ∃ w2, (w.setCell ⟨cb, 2, none⟩ (.int .i64 3)).setCell ⟨cb, 3, none⟩ (.int .i64 (a : Int)) = w2 := ⟨_, rfl⟩
      rw [hw2] at hm hk hwf
      have hbd := bad_yes hm (by decide)
      have d7 : w2.cell? ⟨cb, 7, none⟩ = some (.int .i64 (a : Int)) := hm.cell7
      have d6 := hm.cell6
      have f6 := hm.free 6
      have f7 := hm.free 7
      have h6 := hm.set6 (.slice none 0 0)
      have f7' := h6.free 7
      have c7' : (w2.setCell ⟨cb, 6, none⟩ (.slice none 0 0)).cell? ⟨cb, 7, none⟩ = some (.int .i64 (a : Int)) := h6.cell7
      have HF := Lib.hid (And.intro (h6.set7 (.int .i64 (-1))) ((hk.setCell 6 (.slice none 0 0)).setCell 7 (.int .i64 (-1))))
      clear h hR hm hk h6 hw2 hlong hx
      go_enter Tryz.func63, Tryz.ntmps63
      go_wp2_with fail
      refine hwf.mono ?_
      rintro en w' ⟨rfl, rfl⟩
      go_wp2_with fail
      refine hbd.mono ?_
      rintro en w' ⟨rfl, rfl⟩
      go_wp2_with fail
      first | go_end0 | refine bodyPost_ret (results_none rfl _ _ _) rfl ?_
      exact ⟨by decide, rfl, ⟨_, _, _, HF.out.1⟩, HF.out.2⟩
    · have hI : ¬ (4096 : Int) < (text.length : Int) := by omega
      have hx : tellX out ⟨text.toArray⟩ (some a) = .ok 0 (out ++ [⟨3, ⟨#[]⟩, [], ⟨text.toArray⟩, a⟩]) := by unfold tellX; simp only; exact if_neg hlong
      rw [hx]
      have hbd := bad_no h
      obtain ⟨ms, hrow0, hms2, hms3⟩ := hR.out
      obtain ⟨oa, on, oc, hov⟩ := hrow0.form'
      subst hov
      have hlen : ms.length ≤ 100000000 := by omega
      have hRd : ScR lo (.slice oa on oc) pv (.slice ta text.length tc) out pile text w.drew := hR.on (Below.refl _ _).drew
      have hal : Below w.drew.heap.size w.drew (w.drew.alloc (.cells #[.int .i64 3, .string ⟨#[]⟩, .slice none 0 0, .string ⟨text.toArray⟩, .int .i64 (a : Int)] 45)) := (Below.refl _ _).alloc (Nat.le_refl _) _
      have hRa := hRd.on hal
      have hcw := h.lt
      have hs0 : Scn cb s p 0 0 (.slice oa on oc) pv (.slice ta text.length tc) (.int .i64 (a : Int)) w.drew := h
      have hsa := hs0.on hal
      have htk : ∀ m t, TkOk lo w m t → TkOk lo (w.drew.alloc (.cells #[.int .i64 3, .string ⟨#[]⟩, .slice none 0 0, .string ⟨text.toArray⟩, .int .i64 (a : Int)] 45)) m t := fun m t hk => hk.later (fun g c _ hc => (hal.block g (lt_some hc)))
      have HS0 := Lib.hid (tell_S hs0 hRd.text.text); have HS1 := Lib.hid (tell_S hsa hRa.text.text)
      have HROWA := Lib.hid (show GRow TkE lo (w.drew.alloc (.cells #[.int .i64 3, .string ⟨#[]⟩, .slice none 0 0, .string ⟨text.toArray⟩, .int .i64 (a : Int)] 45)) (.slice oa on oc) ms from (hrow0.on (Below.refl _ _).drew).on hal)
      have HBASEA := Lib.hid (show lo ≤ (w.drew.alloc (.cells #[.int .i64 3, .string ⟨#[]⟩, .slice none 0 0, .string ⟨text.toArray⟩, .int .i64 (a : Int)] 45)).heap.size from hRa.lo)
      have HRA := Lib.hid hRa; have HMS := Lib.hid hms2; have HM3 := Lib.hid (fun j (hj : j < ms.length) (hj' : j < out.length) => htk _ _ (hms3 j hj hj')); have HCB := Lib.hid hcb; have HSA := Lib.hid hsa
      have HTOK := Lib.hid (show ∀ j (h : j < [(⟨3, ⟨#[]⟩, none, 0, 0, ⟨text.toArray⟩, a⟩ : TkM)].length) (h' : j < [(⟨3, ⟨#[]⟩, [], ⟨text.toArray⟩, a⟩ : Tk)].length), TkOk lo (w.drew.alloc (.cells #[.int .i64 3, .string ⟨#[]⟩, .slice none 0 0, .string ⟨text.toArray⟩, .int .i64 (a : Int)] 45)) [(⟨3, ⟨#[]⟩, none, 0, 0, ⟨text.toArray⟩, a⟩ : TkM)][j] [(⟨3, ⟨#[]⟩, [], ⟨text.toArray⟩, a⟩ : Tk)][j] from fun j h h' => by
        obtain rfl : j = 0 := by simp at h; omega
        exact ⟨rfl, rfl, rfl, rfl, GRow.nil _ _ _⟩)
      have HLO := Lib.hid hR.lo
      clear hlong hx hrow0 hms2 hms3 hRd hal hRa hs0 hsa htk h hR hol
      go_enter Tryz.func63, Tryz.ntmps63
      go_wp2_with fail
      refine hbd.mono ?_
      rintro en w' ⟨rfl, rfl⟩
      go_upto_region 3 with fail
      generalize Value.slice ta text.length tc = tv at *
      refine wp_region_phase (S := fun w' => w'.cell? ⟨cb, 4, none⟩ = some (Value.slice oa on oc) ∧ w'.cell? ⟨cb, 6, none⟩ = some tv ∧ w'.cell? ⟨cb, 7, none⟩ = some (Value.int .i64 (a : Int)) ∧ (convert 60 9 tv).run Tryz.prog w' = .ok (.string ⟨text.toArray⟩) w') 19 (by kernel_rfl) (HS0.out) (fun hHeld => ?_)
      refine puP 0 (fun _ => hHeld) ?_
      refine puP 1 (fun _ => hHeld) ?_
      refine puP 2 (fun _ => hHeld) ?_
      refine puP 3 (fun _ => hHeld) ?_
      refine tkP [19] 4 hHeld ?_
      refine puP 5 (fun _ => hHeld) ?_
      refine puP 6 (fun _ => hHeld) ?_
      refine puP 7 (fun _ => hHeld) ?_
      refine tkP [19] 8 hHeld ?_
      refine tkP [19] 9 hHeld ?_
      refine puP 10 (fun _ => hHeld) ?_
      refine puP 11 (fun _ => hHeld) ?_
      refine puP 12 (fun _ => hHeld) ?_
      refine tkP [19] 13 hHeld ?_
      refine puP 14 (fun _ => hHeld) ?_
      refine wpAnyP_ready (rs := [15]) (by kernel_rfl) (by simp) ?_
      refine AllReadyP.cons rfl (fun K hK => ?_) AllReadyP.nil
      go_simp
      refine hK.out _ _ (HS1.out) (fun hHeld => ?_)
      clear hK K
      refine wpAnyP_ready (rs := [16]) (by kernel_rfl) (by simp) ?_
      refine AllReadyP.cons rfl (fun K hK => ?_) AllReadyP.nil
      (refine step_snoc_g TkE (x := ⟨3, ⟨#[]⟩, none, 0, 0, ⟨text.toArray⟩, a⟩) rfl _ _ rfl lo (.slice oa on oc) ms rfl HROWA.out 1 _ rfl (Blk.new _ _ _) hlen HBASEA.out ?_; intro v' w6 hrow6 hg6; obtain ⟨a', n', c', rfl⟩ := hrow6.form'; obtain ⟨hR6, hB6, _⟩ := HRA.out.told HMS.out HM3.out (xs := [(⟨3, ⟨#[]⟩, none, 0, 0, ⟨text.toArray⟩, a⟩ : TkM)]) (ts := [⟨3, ⟨#[]⟩, [], ⟨text.toArray⟩, a⟩]) rfl HTOK.out hrow6 hg6; have hc6 := (HSA.out.low HCB.out hB6); have f4 := hc6.free 4; have k4 := hc6.cell4; have hS6 := tell_S hc6 hR6.text.text)
      refine hK.out _ _ (hS6) (fun hHeld => ?_)
      clear hK K
      refine puP 17 (fun _ => hHeld) ?_
      refine puP 18 (fun _ => hHeld) ?_
      refine wpAnyP_ready (rs := [19]) (by kernel_rfl) (by simp) ?_
      refine AllReadyP.last rfl (by kernel_rfl) (fun K hK => ?_) AllReadyP.nil
      go_simp
      refine hK.out _ _ (trivial) (fun hHeld => ?_)
      clear hK K
      refine wpAnyP_done (by kernel_rfl) ?_ _
      have hs4 := hc6.set4 (.slice a' n' c')
      have HR6 := Lib.hid (hR6.noText.set HCB.out 4 (.slice a' n' c'))
      have HK6 := Lib.hid ((KeepX.of (N := lo) (x := cb) ((bdN0 (Below.refl _ _) 0 : Below w.heap.size w (w.drewN 0)).mono HLO.out) (Nat.le_refl _)))
      have hk4 : KeepX lo cb w (w6.setCell ⟨cb, 4, none⟩ (.slice a' n' c')) := (KeepX.of (x := cb) ((((Below.refl w.heap.size w).drew.alloc (Nat.le_refl _) (.cells #[.int .i64 3, .string ⟨#[]⟩, .slice none 0 0, .string ⟨text.toArray⟩, .int .i64 (a : Int)] 45)).mono HLO.out).trans hB6) (Nat.le_refl _)).setCell 4 _
      have HK4 := Lib.hid hk4
      generalize w6.setCell ⟨cb, 4, none⟩ (.slice a' n' c') = w7 at *
      clear hHeld hS6 hc6 f4 k4 hB6 hR6 hk4 hrow6 hg6 HK6
      have d6 := hs4.cell6
      have f6 := hs4.free 6
      have f7 := hs4.free 7
      have h6 := hs4.set6 (.slice none 0 0)
      have f7' := h6.free 7
      have c7' : (w7.setCell ⟨cb, 6, none⟩ (.slice none 0 0)).cell? ⟨cb, 7, none⟩ = some (.int .i64 (a : Int)) := h6.cell7
      have d7 := hs4.cell7
      have HF := Lib.hid (And.intro (h6.set7 (.int .i64 (-1))) (And.intro ((HR6.out.set HCB.out 6 (.slice none 0 0)).set HCB.out 7 (.int .i64 (-1))) ((HK4.out.setCell 6 (.slice none 0 0)).setCell 7 (.int .i64 (-1)))))
      clear hs4 h6
      go_wp2_with fail
      first | go_end0 | refine bodyPost_ret (results_none rfl _ _ _) rfl ?_
      exact ⟨rfl, HF.out.2.2, _, HF.out.1, HF.out.2.1⟩
end
end

section
open Go.RowKit Go.PlainAid

/-- What an end comes to. -/
def REnd (lo cb : Nat) (s : ByteArray) (p : Nat) (tv c7 : Value) (out : List Tk) (pile : List ByteArray) (text : List UInt8) (w : World) (x : Xr ByteArray) (en : Ending) (w' : World) : Prop :=
  match x with
  | .bad e a => e ≠ 0 ∧ en = .returned (.tuple #[]) ∧ (∃ q c4 x n z c6 c7, Scn cb s q e (a : Int) c4 (.slice x n z) c6 c7 w') ∧ KeepX lo cb w w'
  | .ok q nm => en = .returned (.tuple #[]) ∧ KeepX lo cb w w' ∧ ∃ ov pv, Scn cb s q 0 0 ov pv tv c7 w' ∧ ScR lo ov pv tv (out ++ [⟨2, nm, [], ⟨#[]⟩, p⟩]) pile.dropLast text w'
section
set_option maxRecDepth 100000
set_option maxHeartbeats 16000000
theorem rEnd_any {lo cb : Nat} {s : ByteArray} {p : Nat} {ov pv tv c7 : Value} {out : List Tk} {pile : List ByteArray} {text : List UInt8} {w : World} (h : Scn cb s p 0 0 ov pv tv c7 w) (hR : ScR lo ov pv tv out pile text w) (hcb : cb < lo) (ha : p + 2 ≤ s.size) (hz : s.size ≤ 100000000) (hol : out.length ≤ 10000000) (hpl : pile.length ≤ 64) (hp0 : pile ≠ []) :
    Calls Tryz.prog 64 #[.pointer (some ⟨cb, 0, none⟩)] w fun en w' => REnd lo cb s p tv c7 out pile text w (endX s p (pile.getLastD ⟨#[]⟩)) en w' := by
  obtain ⟨pp, top, rfl⟩ : ∃ p x, pile = p ++ [x] := ⟨pile.dropLast, pile.getLast hp0, (List.dropLast_concat_getLast _).symm⟩
  have hgl : (pp ++ [top]).getLastD ⟨#[]⟩ = top := by simp
  rw [hgl]
  obtain ⟨m, hm⟩ : ∃ m, pp.length = m := ⟨_, rfl⟩
  have hpr := hR.pile.read
  rcases hpr with ⟨e, _⟩ | ⟨pg, pc, hpv, hpg1, hpg2, hcap, hmax, hcell⟩
  · simp at e
  have hct := hcell m (by simp; omega) 0 (by decide)
  have hget : (pp ++ [top])[m]'(by simp; omega) = top := by subst hm; simp
  rw [hget, show m * StrE.sz + 0 = m by simp [StrE]] at hct
  change w.cell? ⟨pg, m, none⟩ = some (.string top) at hct
  rw [List.length_append, List.length_singleton, hm] at hpv hcap
  subst hpv
  obtain ⟨oa, on, oc, hov⟩ := hR.out.choose_spec.1.form'
  subst hov
  have hml : m ≤ 100 := by rw [List.length_append, List.length_singleton, hm] at hpl; omega
  obtain ⟨R, hRX⟩ : ∃ R, endX s p top = R := ⟨_, rfl⟩
  rw [hRX]
  have c1 := h.cell1
  have d0 := h.free 1
  have f1 : IntKind.i64.wrap ((p : Int) + 2) = ((p + 2 : Nat) : Int) := by rw [IntWalk.i64_in _ (by omega)]; omega
  have hM1 := (h.moved (Below.refl w.heap.size w)).set (p + 2)
  have hnm := rName1_any hM1.1 ha (by omega)
  have HRX := Lib.hid hRX; have HRW := Lib.hid hR; have HM1 := Lib.hid hM1; have HCT := Lib.hid hct; have HPG := Lib.hid (And.intro hpg1 hpg2); have HCB := Lib.hid hcb; have HCW := Lib.hid h.lt; have HOL := Lib.hid hol; have HMM := Lib.hid hm; have HCAP := Lib.hid hcap
  rw [show ((p + 2 : Nat) : Int) = (p : Int) + 2 by omega] at hnm
  clear hRX hR hM1 hct hpg1 hpg2 hcb hol hm h hcell hp0 hget hgl hpl hmax
  go_enter Tryz.func64, Tryz.ntmps64
  go_wp2_with fail
  refine hnm.mono ?_
  intro en w3 hE
  clear hnm c1 d0 f1
  obtain ⟨x, rfl, hst⟩ : ∃ x : ByteArray, en = .returned (.string x) ∧ ((∃ q, nameX s (p + 2) = .ok q x ∧ q ≤ s.size ∧ ScnM cb s 0 0 (.slice oa on oc) (.slice (some ⟨pg, 0, none⟩) (m + 1) pc) tv c7 w q w3) ∨ (∃ (e : Int) (a q : Nat), e ≠ 0 ∧ q ≤ s.size ∧ R = .bad e a ∧ ScnM cb s e (a : Int) (.slice oa on oc) (.slice (some ⟨pg, 0, none⟩) (m + 1) pc) tv c7 w q w3)) := by
    unfold SEnd at hE
    cases hx : nameX s (p + 2) with
    | bad ee aa =>
      rw [hx] at hE
      obtain ⟨hee, ⟨x, hxx⟩, q, hq, hM⟩ := hE
      exact ⟨x, hxx, .inr ⟨ee, aa, q, hee, hq, by rw [← HRX.out]; exact endX_bad hx, HM1.out.next hM⟩⟩
    | ok q x =>
      rw [hx] at hE
      exact ⟨x, hE.1, .inl ⟨q, rfl, (nameX_in hx (by omega)).2, HM1.out.next hE.2⟩⟩
  have hpt : w3.cell? ⟨pg, m, none⟩ = some (.string top) := by
    have key : ∀ {e a : Int} {q : Nat}, ScnM cb s e a (.slice oa on oc) (.slice (some ⟨pg, 0, none⟩) (m + 1) pc) tv c7 w q w3 → w3.cell? ⟨pg, m, none⟩ = some (.string top) := fun {e a q} hM => (World.cell?_of_block (hM.2.block pg HPG.out.2 (by have := HPG.out.1; have := HCB.out; omega))).trans HCT.out
    rcases hst with ⟨q, _, _, hM⟩ | ⟨_, _, _, _, _, _, hM⟩
    · exact key hM
    · exact key hM
  have HS := Lib.hid hst; have HPT := Lib.hid hpt
  have f2 : IntKind.i64.wrap ((m : Int) + 1 - 1) = (m : Int) := by rw [IntWalk.i64_in _ (by omega)]; omega
  have f3 : IntKind.i64.wrap (m : Int) = (m : Int) := IntWalk.i64_in _ (by omega)
  have hm0 : (0 : Int) ≤ m := by omega
  have hm1 : (m : Int) < (m : Int) + 1 := by omega
  clear hst hE hpt
  go_upto_region 3 with fail
  go_cut [35] (fun s35 wx => (∃ q, nameX s (p + 2) = .ok q x ∧ q ≤ s.size ∧ s35 = .bool (decide (x ≠ top)) ∧ ScnM cb s 0 0 (.slice oa on oc) (.slice (some ⟨pg, 0, none⟩) (m + 1) pc) tv c7 w q wx) ∨ (∃ (e : Int) (a q : Nat), e ≠ 0 ∧ q ≤ s.size ∧ R = .bad e a ∧ s35 = .bool false ∧ ScnM cb s e (a : Int) (.slice oa on oc) (.slice (some ⟨pg, 0, none⟩) (m + 1) pc) tv c7 w q wx))
  case first =>
    rcases HS.out with ⟨q, hx, hq, hM⟩ | ⟨e, a, q, he, hq, hx, hM⟩
    · have hMd := hM.on (Below.refl _ _).drew
      have hSd : w3.drew.cell? ⟨cb, 5, none⟩ = some (Value.slice (some ⟨pg, 0, none⟩) (m + 1) pc) ∧ w3.drew.cell? ⟨pg, m, none⟩ = some (Value.string top) ∧ Below w3.heap.size w3 w3.drew := ⟨hMd.1.cell5, HPT.out, (Below.refl _ _).drew⟩
      have HBD := Lib.hid (bad_no hMd.1)
      have HX := Lib.hid hx; have HM := Lib.hid hMd
      clear hx hM hMd HS
      by_cases hxt : x = top
      · have hqe := bytes_eqb x top
        rw [decide_eq_true hxt] at hqe
        have HD := Lib.hid (show decide (x ≠ top) = false by simpa using hxt)
        clear hxt
        refine wp_region_held_drew (S := fun w' => w'.cell? ⟨cb, 5, none⟩ = some (Value.slice (some ⟨pg, 0, none⟩) (m + 1) pc) ∧ w'.cell? ⟨pg, m, none⟩ = some (Value.string top) ∧ Below w3.heap.size w3 w') (by kernel_rfl) (hSd) (fun hHeld => ?_)
        refine tkH 0 hHeld ?_
        refine wpAnyH_ready (rs := [1]) (by kernel_rfl) (by simp) ?_
        refine AllReadyH.cons rfl (fun K hK => ?_) AllReadyH.nil
        go_simp
        go_wp2_with (go_at_call 35; refine HBD.out.mono ?_; rintro en wy ⟨rfl, rfl⟩)
        refine hK.out _ _ (hSd) (fun hHeld => ?_)
        clear hK K
        refine tkH 2 hHeld ?_
        refine tkH 3 hHeld ?_
        refine tkH 4 hHeld ?_
        refine tkH 5 hHeld ?_
        refine tkH 6 hHeld ?_
        refine tkH 7 hHeld ?_
        refine tkH 8 hHeld ?_
        refine tkH 9 hHeld ?_
        refine tkH 10 hHeld ?_
        refine tkH 11 hHeld ?_
        refine tkH 12 hHeld ?_
        refine tkH 13 hHeld ?_
        refine tkH 14 hHeld ?_
        refine tkH 15 hHeld ?_
        refine tkH 16 hHeld ?_
        refine tkH 17 hHeld ?_
        refine tkH 18 hHeld ?_
        refine wpAnyH_done (by kernel_rfl) ?_ _
        go_wp2_with fail
        go_meet
        case rel => exact .inl ⟨q, HX.out, hq, by rw [HD.out], HM.out⟩
      · have hqe := bytes_eqb x top
        rw [decide_eq_false hxt] at hqe
        have HD := Lib.hid (show decide (x ≠ top) = true by simpa using hxt)
        clear hxt
        refine wp_region_held_drew (S := fun w' => w'.cell? ⟨cb, 5, none⟩ = some (Value.slice (some ⟨pg, 0, none⟩) (m + 1) pc) ∧ w'.cell? ⟨pg, m, none⟩ = some (Value.string top) ∧ Below w3.heap.size w3 w') (by kernel_rfl) (hSd) (fun hHeld => ?_)
        refine tkH 0 hHeld ?_
        refine wpAnyH_ready (rs := [1]) (by kernel_rfl) (by simp) ?_
        refine AllReadyH.cons rfl (fun K hK => ?_) AllReadyH.nil
        go_simp
        go_wp2_with (go_at_call 35; refine HBD.out.mono ?_; rintro en wy ⟨rfl, rfl⟩)
        refine hK.out _ _ (hSd) (fun hHeld => ?_)
        clear hK K
        refine tkH 2 hHeld ?_
        refine tkH 3 hHeld ?_
        refine tkH 4 hHeld ?_
        refine tkH 5 hHeld ?_
        refine tkH 6 hHeld ?_
        refine tkH 7 hHeld ?_
        refine tkH 8 hHeld ?_
        refine tkH 9 hHeld ?_
        refine tkH 10 hHeld ?_
        refine tkH 11 hHeld ?_
        refine tkH 12 hHeld ?_
        refine tkH 13 hHeld ?_
        refine tkH 14 hHeld ?_
        refine tkH 15 hHeld ?_
        refine tkH 16 hHeld ?_
        refine tkH 17 hHeld ?_
        refine tkH 18 hHeld ?_
        refine wpAnyH_done (by kernel_rfl) ?_ _
        go_wp2_with fail
        go_meet
        case rel => exact .inl ⟨q, HX.out, hq, by rw [HD.out], HM.out⟩
    · have hMd := hM.on (Below.refl _ _).drew
      have hSd : w3.drew.cell? ⟨cb, 5, none⟩ = some (Value.slice (some ⟨pg, 0, none⟩) (m + 1) pc) ∧ w3.drew.cell? ⟨pg, m, none⟩ = some (Value.string top) ∧ Below w3.heap.size w3 w3.drew := ⟨hMd.1.cell5, HPT.out, (Below.refl _ _).drew⟩
      have HBD := Lib.hid (bad_yes hMd.1 he)
      have HX := Lib.hid hx; have HM := Lib.hid hMd; have HE := Lib.hid he
      clear hx hM hMd he HS
      refine wp_region_held_drew (S := fun w' => w'.cell? ⟨cb, 5, none⟩ = some (Value.slice (some ⟨pg, 0, none⟩) (m + 1) pc) ∧ w'.cell? ⟨pg, m, none⟩ = some (Value.string top) ∧ Below w3.heap.size w3 w') (by kernel_rfl) (hSd) (fun hHeld => ?_)
      refine tkH 0 hHeld ?_
      refine wpAnyH_ready (rs := [1]) (by kernel_rfl) (by simp) ?_
      refine AllReadyH.cons rfl (fun K hK => ?_) AllReadyH.nil
      go_simp
      go_wp2_with (go_at_call 35; refine HBD.out.mono ?_; rintro en wy ⟨rfl, rfl⟩)
      refine hK.out _ _ (hSd) (fun hHeld => ?_)
      clear hK K
      refine tkH 2 hHeld ?_
      refine tkH 3 hHeld ?_
      refine skH 4 hHeld ?_
      refine skH 5 hHeld ?_
      refine skH 6 hHeld ?_
      refine skH 7 hHeld ?_
      refine skH 8 hHeld ?_
      refine skH 9 hHeld ?_
      refine skH 10 hHeld ?_
      refine skH 11 hHeld ?_
      refine skH 12 hHeld ?_
      refine skH 13 hHeld ?_
      refine skH 14 hHeld ?_
      refine skH 15 hHeld ?_
      refine skH 16 hHeld ?_
      refine skH 17 hHeld ?_
      refine tkH 18 hHeld ?_
      refine wpAnyH_done (by kernel_rfl) ?_ _
      go_wp2_with fail
      go_meet
      case rel => exact .inr ⟨e, a, q, HE.out, hq, HX.out, rfl, HM.out⟩
  case rest =>
  have HC1 := Lib.hid hcut
  clear hcut HS HPT
  go_upto_if 35 with fail
  go_cut [] (fun wx => (∃ q, nameX s (p + 2) = .ok q x ∧ q ≤ s.size ∧ x = top ∧ ScnM cb s 0 0 (.slice oa on oc) (.slice (some ⟨pg, 0, none⟩) (m + 1) pc) tv c7 w q wx) ∨ (∃ (e : Int) (a q : Nat), e ≠ 0 ∧ q ≤ s.size ∧ R = .bad e a ∧ ScnM cb s e (a : Int) (.slice oa on oc) (.slice (some ⟨pg, 0, none⟩) (m + 1) pc) tv c7 w q wx))
  case first =>
    rcases HC1.out with ⟨q, hx, hq, hs, hM⟩ | ⟨e, a, q, he, hq, hx, hs, hM⟩
    · have HX := Lib.hid hx; have HM := Lib.hid hM
      clear hx hM HC1
      by_cases hxt : x = top
      · have hd : decide (x ≠ top) = false := by simpa using hxt
        rw [hd] at hs
        subst hs
        have HXT := Lib.hid hxt
        clear hxt hd
        go_wp2_with fail
        go_meet
        case rel => exact .inl ⟨q, HX.out, hq, HXT.out, HM.out⟩
      · have hd : decide (x ≠ top) = true := by simpa using hxt
        rw [hd] at hs
        subst hs
        have hwf := wrong_first HM.out.1 143 (p : Int)
        have HRR := Lib.hid (show R = .bad 143 p by rw [← HRX.out]; exact endX_other HX.out hxt)
        clear hxt hd
        go_wp2_with fail
        refine hwf.mono ?_
        rintro en w' ⟨rfl, rfl⟩
        clear hwf
        go_wp2_with fail
        go_meet
        case rel => exact .inr ⟨143, p, q, by decide, hq, HRR.out, HM.out.1.mark 143 (p : Int), (HM.out.2.setCell 2 (.int .i64 143)).setCell 3 (.int .i64 (p : Int))⟩
    · subst hs
      have HX := Lib.hid hx; have HM := Lib.hid hM; have HE := Lib.hid he
      clear hx hM he HC1
      go_wp2_with fail
      go_meet
      case rel => exact .inr ⟨e, a, q, HE.out, hq, HX.out, HM.out⟩
  case rest =>
  have HC2 := Lib.hid hcut
  clear hcut HC1
  go_upto_region 5 with fail
  go_cut [] (fun wx => (∃ q k, nameX s (p + 2) = .ok q x ∧ blk s q = k ∧ k ≤ s.size ∧ x = top ∧ ScnM cb s 0 0 (.slice oa on oc) (.slice (some ⟨pg, 0, none⟩) (m + 1) pc) tv c7 w k wx) ∨ (∃ (e : Int) (a q : Nat), e ≠ 0 ∧ q ≤ s.size ∧ R = .bad e a ∧ ScnM cb s e (a : Int) (.slice oa on oc) (.slice (some ⟨pg, 0, none⟩) (m + 1) pc) tv c7 w q wx))
  case first =>
    rcases HC2.out with ⟨q, hx, hq, hxt, hM⟩ | ⟨e, a, q, he, hq, hx, hM⟩
    · have hbl := rBlanks_any hM.1 hq (by omega)
      have HX := Lib.hid hx; have HM := Lib.hid hM; have HXT := Lib.hid hxt
      clear hx hM hxt HC2
      go_wp2_with fail
      refine hbl.mono ?_
      rintro en w' ⟨rfl, hM2⟩
      clear hbl
      have HM2 := Lib.hid hM2
      clear hM2
      go_wp2_with fail
      go_meet
      case rel => exact .inl ⟨q, _, HX.out, rfl, blk_le s q hq, HXT.out, HM.out.next HM2.out⟩
    · have hbl := rBlanks_any hM.1 hq (by omega)
      have HX := Lib.hid hx; have HM := Lib.hid hM; have HE := Lib.hid he
      clear hx hM he HC2
      go_wp2_with fail
      refine hbl.mono ?_
      rintro en w' ⟨rfl, hM2⟩
      clear hbl
      have HM2 := Lib.hid hM2
      clear hM2
      go_wp2_with fail
      go_meet
      case rel => exact .inr ⟨e, a, _, HE.out, blk_le s q hq, HX.out, HM.out.next HM2.out⟩
  case rest =>
  have HC3 := Lib.hid hcut
  clear hcut HC2
  go_upto_region 6 with fail
  go_cut [48] (fun s48 wx => (∃ q k, nameX s (p + 2) = .ok q x ∧ blk s q = k ∧ k ≤ s.size ∧ x = top ∧ s48 = .bool (!(bt s k == 62)) ∧ ScnM cb s 0 0 (.slice oa on oc) (.slice (some ⟨pg, 0, none⟩) (m + 1) pc) tv c7 w k wx) ∨ (∃ (e : Int) (a q : Nat), e ≠ 0 ∧ q ≤ s.size ∧ R = .bad e a ∧ s48 = .bool false ∧ ScnM cb s e (a : Int) (.slice oa on oc) (.slice (some ⟨pg, 0, none⟩) (m + 1) pc) tv c7 w q wx))
  case first =>
    rcases HC3.out with ⟨q, k, hx, hk, hks, hxt, hM⟩ | ⟨e, a, q, he, hq, hx, hM⟩
    · have hbd := bad_no hM.1
      have hi62 := is_any hM.1 hks [62] (by decide)
      have hw62 : wdAt s k (([62] : List UInt8).map fun c => (c.toNat : Int)) = (bt s k == 62) := by simp [wdAt]
      rw [hw62] at hi62
      have HX := Lib.hid hx; have HM := Lib.hid hM; have HXT := Lib.hid hxt; have HK := Lib.hid hk
      clear hx hM hxt hk hw62 HC3
      go_wp2_with fail
      refine hbd.mono ?_
      rintro en w' ⟨rfl, rfl⟩
      go_wp2_with fail
      refine hi62.mono ?_
      rintro en w' ⟨rfl, hB2⟩
      have HB2 := Lib.hid hB2
      clear hB2 hi62 hbd
      go_wp2_with fail
      go_meet
      case rel => exact .inl ⟨q, k, HX.out, HK.out, hks, HXT.out, rfl, HM.out.on HB2.out⟩
    · have hbd := bad_yes hM.1 he
      have HX := Lib.hid hx; have HM := Lib.hid hM; have HE := Lib.hid he
      clear hx hM he HC3
      go_wp2_with fail
      refine hbd.mono ?_
      rintro en w' ⟨rfl, rfl⟩
      go_wp2_with fail
      go_meet
      case rel => exact .inr ⟨e, a, q, HE.out, hq, HX.out, rfl, HM.out⟩
  case rest =>
  have HC4 := Lib.hid hcut
  clear hcut HC3
  go_upto_if 48 with fail
  go_cut [] (fun wx => ∃ (e a : Int) (q : Nat), q ≤ s.size ∧ ScnM cb s e a (.slice oa on oc) (.slice (some ⟨pg, 0, none⟩) (m + 1) pc) tv c7 w q wx ∧ ((e = 0 ∧ a = 0 ∧ R = .ok (q + 1) x) ∨ (∃ b : Nat, a = (b : Int) ∧ e ≠ 0 ∧ R = .bad e b)))
  case first =>
    rcases HC4.out with ⟨q, k, hx, hk, hks, hxt, hs, hM⟩ | ⟨e, a, q, he, hq, hx, hs, hM⟩
    · have hgo := endX_go hx hxt hk
      rw [HRX.out] at hgo
      have HX := Lib.hid hgo; have HM := Lib.hid hM
      clear hx hM hxt hk hgo HC4
      by_cases h62 : bt s k = 62
      · rw [show (bt s k == 62) = true by simpa using h62] at hs
        subst hs
        have HRR := Lib.hid (HX.out.trans (if_pos h62))
        clear h62
        go_wp2_with fail
        go_meet
        case rel => exact ⟨0, 0, k, hks, HM.out, .inl ⟨rfl, rfl, HRR.out⟩⟩
      · rw [show (bt s k == 62) = false by simpa using h62] at hs
        subst hs
        have HRR := Lib.hid (HX.out.trans (if_neg h62))
        have hwf := wrong_first HM.out.1 140 (k : Int)
        have k1 := HM.out.1.cell1
        clear h62
        go_wp2_with fail
        refine hwf.mono ?_
        rintro en w' ⟨rfl, rfl⟩
        clear hwf
        go_wp2_with fail
        go_meet
        case rel => exact ⟨140, k, k, hks, ⟨HM.out.1.mark 140 (k : Int), (HM.out.2.setCell 2 (.int .i64 140)).setCell 3 (.int .i64 (k : Int))⟩, .inr ⟨k, rfl, by decide, HRR.out⟩⟩
    · subst hs
      have HX := Lib.hid hx; have HM := Lib.hid hM; have HE := Lib.hid he
      clear hx hM he HC4
      go_wp2_with fail
      go_meet
      case rel => exact ⟨e, a, q, hq, HM.out, .inr ⟨a, rfl, HE.out, HX.out⟩⟩
  case rest =>
  obtain ⟨e, a, q, hq, hM, hres⟩ := hcut
  have c1 := hM.1.cell1
  have d0 := hM.1.free 1
  have f1 : IntKind.i64.wrap ((q : Int) + 1) = ((q + 1 : Nat) : Int) := by rw [IntWalk.i64_in _ (by omega)]; omega
  have hM2 := hM.set (q + 1)
  rw [show ((q + 1 : Nat) : Int) = (q : Int) + 1 by omega] at hM2
  have HM2 := Lib.hid hM2; have HRES := Lib.hid hres
  clear hM hM2 hres HC4
  go_upto_region 9 with fail
  generalize wc.setCell ⟨cb, 1, none⟩ (.int .i64 ((q : Int) + 1)) = W at *
  clear c1 d0 f1
  have hMd := HM2.out.on (Below.refl W.heap.size W).drew
  have hS9 : W.drew.cell? ⟨cb, 5, none⟩ = some (Value.slice (some ⟨pg, 0, none⟩) (m + 1) pc) := hMd.1.cell5
  have k5 := hMd.1.cell5
  have f5 := hMd.1.free 5
  have hmc : (m : Int) ≤ (pc : Int) := by have := HCAP.out; omega
  have hRd : ScR lo (.slice oa on oc) (.slice (some ⟨pg, 0, none⟩) (m + 1) pc) tv out (pp ++ [top]) text W.drew := HRW.out.keep hMd.2 HCB.out
  have hs5 := hMd.1.set5 (.slice (some ⟨pg, 0, none⟩) m pc)
  have hR5 := hRd.popped.set HCB.out 5 (.slice (some ⟨pg, 0, none⟩) m pc)
  have hK5 := hMd.2.setCell 5 (.slice (some ⟨pg, 0, none⟩) m pc)
  rw [List.dropLast_concat] at hR5
  have HS5 := Lib.hid hs5; have HR5 := Lib.hid hR5; have HK5 := Lib.hid hK5
  clear hMd hRd hs5 hR5 hK5
  refine wp_region_phase (S := fun w' => w'.cell? ⟨cb, 5, none⟩ = some (Value.slice (some ⟨pg, 0, none⟩) (m + 1) pc)) 14 (by kernel_rfl) (hS9) (fun hHeld => ?_)
  refine puP 0 (fun _ => hHeld) ?_
  refine puP 1 (fun _ => hHeld) ?_
  refine puP 2 (fun _ => hHeld) ?_
  refine puP 3 (fun _ => hHeld) ?_
  refine tkP [14] 4 hHeld ?_
  refine puP 5 (fun _ => hHeld) ?_
  refine puP 6 (fun _ => hHeld) ?_
  refine puP 7 (fun _ => hHeld) ?_
  refine tkP [14] 8 hHeld ?_
  refine tkP [14] 9 hHeld ?_
  refine tkP [14] 10 hHeld ?_
  refine tkP [14] 11 hHeld ?_
  refine puP 12 (fun _ => hHeld) ?_
  refine puP 13 (fun _ => hHeld) ?_
  refine wpAnyP_ready (rs := [14]) (by kernel_rfl) (by simp) ?_
  refine AllReadyP.last rfl (by kernel_rfl) (fun K hK => ?_) AllReadyP.nil
  go_simp
  refine hK.out _ _ (trivial) (fun hHeld => ?_)
  clear hK K
  refine wpAnyP_done (by kernel_rfl) ?_ _
  clear hHeld hS9 k5 f5
  go_upto_region 10 with fail
  have hs5 : Scn cb s (q + 1) e a (.slice oa on oc) (.slice (some ⟨pg, 0, none⟩) m pc) tv c7 (W.setCell ⟨cb, 5, none⟩ (.slice (some ⟨pg, 0, none⟩) m pc)).drew := HS5.out
  have hr5 : ScR lo (.slice oa on oc) (.slice (some ⟨pg, 0, none⟩) m pc) tv out pp text (W.setCell ⟨cb, 5, none⟩ (.slice (some ⟨pg, 0, none⟩) m pc)).drew := HR5.out
  have hk5 : KeepX w.heap.size cb w (W.setCell ⟨cb, 5, none⟩ (.slice (some ⟨pg, 0, none⟩) m pc)).drew := HK5.out
  generalize hw5 : (W.setCell ⟨cb, 5, none⟩ (.slice (some ⟨pg, 0, none⟩) m pc)).drew = W5 at *
  clear HS5 HR5 HK5
  obtain ⟨ms, hrow0, hms2, hms3⟩ := hr5.out
  have k4 := hs5.cell4
  have hlen : ms.length ≤ 100000000 := by have := HOL.out; omega
  have hal : Below W5.heap.size W5 (W5.alloc (.cells #[.int .i64 2, .string x, .slice none 0 0, .string ⟨#[]⟩, .int .i64 (p : Int)] 45)) := (Below.refl _ _).alloc (Nat.le_refl _) _
  have hRa := hr5.on hal
  have hsa := hs5.on hal
  have hrowa := hrow0.on hal
  have hms3a : ∀ j (h : j < ms.length) (h' : j < out.length), TkOk lo (W5.alloc (.cells #[.int .i64 2, .string x, .slice none 0 0, .string ⟨#[]⟩, .int .i64 (p : Int)] 45)) ms[j] out[j] := fun j h h' => (hms3 j h h').later (fun g c _ hc => hal.block g (lt_some hc))
  have htok : ∀ j (h : j < [(⟨2, x, none, 0, 0, ⟨#[]⟩, p⟩ : TkM)].length) (h' : j < [(⟨2, x, [], ⟨#[]⟩, p⟩ : Tk)].length), TkOk lo (W5.alloc (.cells #[.int .i64 2, .string x, .slice none 0 0, .string ⟨#[]⟩, .int .i64 (p : Int)] 45)) [(⟨2, x, none, 0, 0, ⟨#[]⟩, p⟩ : TkM)][j] [(⟨2, x, [], ⟨#[]⟩, p⟩ : Tk)][j] := fun j h h' => by
    obtain rfl : j = 0 := by simp at h; omega
    exact ⟨rfl, rfl, rfl, rfl, GRow.nil _ _ _⟩
  have HRA := Lib.hid hRa; have HSA := Lib.hid hsa; have HROWA := Lib.hid hrowa; have HM3 := Lib.hid hms3a; have HTOK := Lib.hid htok; have HMS := Lib.hid hms2; have HK5 := Lib.hid hk5
  clear hs5 hr5 hk5 hrow0 hms3 hal hRa hsa hrowa hms3a htok hms2
  go_wp2_with (at_builtin; refine wpList_snoc_g TkE (x := ⟨2, x, none, 0, 0, ⟨#[]⟩, p⟩) rfl _ _ rfl lo (.slice oa on oc) ms rfl HROWA.out 1 _ rfl (Blk.new _ _ _) hlen HRA.out.lo ?_)
  intro v' w6 hrow6 hg6
  obtain ⟨a', n', c', rfl⟩ := hrow6.form'
  obtain ⟨hR6, hB6, _⟩ := HRA.out.told HMS.out HM3.out (xs := [(⟨2, x, none, 0, 0, ⟨#[]⟩, p⟩ : TkM)]) (ts := [⟨2, x, [], ⟨#[]⟩, p⟩]) rfl HTOK.out hrow6 hg6
  have hc6 := HSA.out.low HCB.out hB6
  have f4 := hc6.free 4
  have j4 := hc6.cell4
  have hs4 := hc6.set4 (.slice a' n' c')
  have hR4 := hR6.set HCB.out 4 (.slice a' n' c')
  have hk4 : KeepX lo cb w (w6.setCell ⟨cb, 4, none⟩ (.slice a' n' c')) := (HK5.out.mono HRW.out.lo).trans ((KeepX.of (x := cb) ((((Below.refl W5.heap.size W5).alloc (Nat.le_refl _) (.cells #[.int .i64 2, .string x, .slice none 0 0, .string ⟨#[]⟩, .int .i64 (p : Int)] 45)).mono (Nat.le_trans HRW.out.lo HK5.out.size)).trans hB6) (Nat.le_refl _)).setCell 4 _)
  have HF := Lib.hid (And.intro hs4 (And.intro hR4 hk4))
  clear hrow6 hg6 hR6 hB6 hc6 hs4 hR4 hk4 k4
  go_wp2_with fail
  first | go_end0 | refine bodyPost_ret (results_none rfl _ _ _) rfl ?_
  rcases HRES.out with ⟨rfl, rfl, hr⟩ | ⟨b, rfl, he, hr⟩
  · rw [hr]
    exact ⟨rfl, HF.out.2.2, _, _, HF.out.1, by rw [List.dropLast_concat]; exact HF.out.2.1⟩
  · rw [hr]
    exact ⟨he, rfl, ⟨_, _, _, _, _, _, _, HF.out.1⟩, HF.out.2.2⟩
end
end
end Go.Proofs.YtnmpbphnfiiafaaGreatDoor
