/-
  PluralJoins: a rule with or holds where one of its parts does, one with and where both do: the walk of the law.
-/
import Derived.Test.YtgbemhehbhlgpaaGreatDoorPlCm
import Derived.Test.YtgbemhehbhlgpaaGreatDoorPlTu
import Derived.Test.YtgbemhehbhlgpaaGreatDoorPlJt
namespace Go.Proofs.YtgbemhehbhlgpaaGreatDoor
open Go.RowKit Go.PlainAid

theorem has_in (u x v : ByteArray) {z : ByteArray} {k : Nat} (h : Has x k z) : Has (u ++ x ++ v) (u.size + k) z := by
  have h1 := h.1
  refine ⟨by rw [ByteArray.size_append, ByteArray.size_append]; omega, fun i hi => ?_⟩
  rw [bt_app, if_pos (by rw [ByteArray.size_append]; omega), bt_app, if_neg (by omega), show u.size + k + i - u.size = k + i by omega]
  exact h.2 i hi
theorem app_none (x : ByteArray) : x ++ ⟨#[]⟩ = x := ByteArray.append_empty
/-- Where no ' or ' is found in both texts with a blank between, none stands in either, but for its end. -/
theorem no_or {t1 t2 : ByteArray} {i : Nat} (hi : ¬ i + 4 ≤ t1.size + t2.size) (hk : ∀ k, Has (t1 ++ ⟨#[32]⟩ ++ t2) k orS → i ≤ k) : (∀ k, Has t1 k orS → ¬ k + 4 < t1.size) ∧ (∀ k, Has t2 k orS → ¬ k + 4 < t2.size) := by
  refine ⟨fun k h hz => ?_, fun k h hz => ?_⟩
  · have h1 := has_in ⟨#[]⟩ t1 (⟨#[32]⟩ ++ t2) h
    rw [nil_app, ← ByteArray.append_assoc] at h1
    have h2 := hk _ h1
    have h3 : i ≤ 0 + k := h2
    omega
  · have h1 := has_in (t1 ++ ⟨#[32]⟩) t2 ⟨#[]⟩ h
    rw [app_none] at h1
    have h2 := hk _ h1
    rw [ByteArray.size_append] at h2
    have h3 : i ≤ t1.size + 1 + k := h2
    omega
theorem or_met {neg : Bool} {ds : ByteArray} {sc : Int} (A B : List (List Rl)) : metB neg ds sc (A ++ B) = (metB neg ds sc A || metB neg ds sc B) := by
  unfold metB
  rw [rows_or]
  cases rightB neg ds sc <;> rfl
theorem and_met {neg : Bool} {ds : ByteArray} {sc : Int} (A B : List Rl) : metB neg ds sc [A ++ B] = (metB neg ds sc [A] && metB neg ds sc [B]) := by
  unfold metB
  rw [rows_and]
  cases rightB neg ds sc <;> rfl

set_option maxRecDepth 100000 in
set_option maxHeartbeats 2000000 in
theorem pluralJoins_walk (a b : ByteArray) (neg : Bool) (ds : ByteArray) (sc : Int) (w : World) (_ : a.size ≤ 140737488351232) (_ : b.size ≤ 140737488351232) (hw : PW w) :
    Calls Tryz.prog 8 #[.string a, .string b, .agg #[.bool neg, .string ds, .int .i64 sc]] w fun e w' => e = .returned (.bool true) ∧ Below w.heap.size w w' := by
  have hA0 := (Below.refl w.heap.size w).alloc (Nat.le_refl _) (.cells #[.bool neg, .string ds, .int .i64 sc] 23)
  have kD := Blk.new w #[.bool neg, .string ds, .int .i64 sc] 23
  have hwk := wakes_pw _ (hw.on hA0)
  go_enter Tryz.func8, Tryz.ntmps8
  go_wp2_with fail
  refine hwk.mono ?_
  rintro e w1 ⟨rfl, hB1'⟩
  have hB1 := hA0.trans (hB1'.mono hA0.size)
  have kD1 := kD.on hB1'
  have hw1 := hw.on hB1
  have hp := parse_tup a w1 hw1.pg
  clear hwk kD hA0 hB1'
  go_wp2_with fail
  refine hp.mono ?_
  rintro e w2 ⟨⟨v1, e1, q1, rfl, h1⟩, hB2⟩
  have hB2' := hB1.trans (hB2.mono hB1.size)
  have hA2 := (Below.refl w2.heap.size w2).alloc (Nat.le_refl _) (.cells #[.int .i64 e1, .int .i64 q1] 53)
  have hB3 := hB2'.trans (hA2.mono hB2'.size)
  have kX := Blk.new w2 #[.int .i64 e1, .int .i64 q1] 53
  have kD3 := (kD1.on hB2).on hA2
  have hw3 := hw1.on (hB2.trans (hA2.mono hB2.size))
  have h1' : (e1 == 0) = false ∨ (e1 = 0 ∧ q1 = 0 ∧ a.size ≤ 4096 ∧ ∃ p rows t, ruleP a = .ok p rows t ∧ RuleAt (w2.alloc (.cells #[.int .i64 e1, .int .i64 q1] 53)) v1 t rows) := h1.imp id fun ⟨g1, g2, g3, p, rows, t, g4, g5⟩ => ⟨g1, g2, g3, p, rows, t, g4, g5.on hA2⟩
  have hp2 := parse_tup b _ hw3.pg
  have H1 := Lib.hid h1'
  clear hp h1 h1' hA2 kD1 hw1 hB2
  go_wp2_with fail
  generalize w2.alloc (.cells #[.int .i64 e1, .int .i64 q1] 53) = w3 at *
  refine hp2.mono ?_
  rintro e w4 ⟨⟨v2, e2, q2, rfl, h2⟩, hB4⟩
  have hB4' := hB3.trans (hB4.mono hB3.size)
  have hA4 := (Below.refl w4.heap.size w4).alloc (Nat.le_refl _) (.cells #[.int .i64 e2, .int .i64 q2] 53)
  have hB5 := hB4'.trans (hA4.mono hB4'.size)
  have hB45 := hB4.trans (hA4.mono hB4.size)
  have kX5 := kX.on hB45
  have kY := Blk.new w4 #[.int .i64 e2, .int .i64 q2] 53
  have kD5 := kD3.on hB45
  have hw5 := hw3.on hB45
  have hx0 := kX5.cell 0
  have hy0 := kY.cell 0
  simp at hx0 hy0
  rcases H1.out with he1 | ⟨rfl, rfl, hza, pa, rowsa, ta, hra, hva⟩
  · have hne : (e1 != 0) = true := by rw [bne, he1]; rfl
    clear hp2 hA4 kX kX5 kY kD5 kD3 hw5 hw3 H1 h2
    go_wp2_with fail
    go_ret
    exact ⟨rfl, hB5⟩
  rcases h2 with he2 | ⟨rfl, rfl, hzb, pb, rowsb, tb, hrb, hvb⟩
  · have hne : (e2 != 0) = true := by rw [bne, he2]; rfl
    clear hp2 hA4 kX kX5 kY kD5 kD3 hw5 hw3 H1 hva hra
    go_wp2_with fail
    go_ret
    exact ⟨rfl, hB5⟩
  have hva5 := hva.on hB45
  have hvb5 := hvb.on hA4
  obtain ⟨xa, xf, rfl, hvk⟩ := id hva
  obtain ⟨xb, xg, rfl, hvk2⟩ := id hvb
  have hpra := print_any _ ta rowsa _ hva5
  have hprb := print_any _ tb rowsb _ hvb5
  have hta : ta.size ≤ 12288 := by have := ruleP_size hra; omega
  have htb : tb.size ≤ 12288 := by have := ruleP_size hrb; omega
  have HRA := Lib.hid hra; have HRB := Lib.hid hrb
  clear hp2 hA4 kX kX5 kY kD3 hw3 H1 hra hrb hvk hvk2 hva hvb hB45 hza hzb
  by_cases hna : ta.size = 0
  · have b1 := bytes_nil hna
    clear hva5 hvb5 hprb kD5 hw5 hna hta htb
    go_wp2_with fail
    generalize w4.alloc (.cells #[.int .i64 0, .int .i64 0] 53) = w5 at *
    refine hpra.mono ?_
    rintro e w' ⟨rfl, rfl⟩
    go_wp2_with fail
    go_ret
    exact ⟨rfl, hB5⟩
  have b1 := bytes_ne hna
  by_cases hnb : tb.size = 0
  · have b2 := bytes_nil hnb
    clear hva5 hvb5 kD5 hw5 hna hnb hta htb
    go_wp2_with fail
    generalize w4.alloc (.cells #[.int .i64 0, .int .i64 0] 53) = w5 at *
    refine hpra.mono ?_
    rintro e w' ⟨rfl, rfl⟩
    go_wp2_with fail
    refine hprb.mono ?_
    rintro e w' ⟨rfl, rfl⟩
    go_wp2_with fail
    go_ret
    exact ⟨rfl, hB5⟩
  have b2 := bytes_ne hnb
  have hsum : IntKind.i64.wrap ((ta.size : Int) + tb.size) = (ta.size : Int) + tb.size := IntWalk.i64_in _ (by omega)
  by_cases hbig : 2000 < ta.size + tb.size
  · have hbI : (2000 : Int) < (ta.size : Int) + tb.size := by omega
    clear hva5 hvb5 kD5 hw5 hna hnb hta htb hbig
    go_wp2_with fail
    generalize w4.alloc (.cells #[.int .i64 0, .int .i64 0] 53) = w5 at *
    refine hpra.mono ?_
    rintro e w' ⟨rfl, rfl⟩
    go_wp2_with fail
    refine hprb.mono ?_
    rintro e w' ⟨rfl, rfl⟩
    go_wp2_with fail
    refine hpra.mono ?_
    rintro e w' ⟨rfl, rfl⟩
    go_wp2_with fail
    refine hprb.mono ?_
    rintro e w' ⟨rfl, rfl⟩
    go_wp2_with fail
    go_ret
    exact ⟨rfl, hB5⟩
  have hbI : ¬ (2000 : Int) < (ta.size : Int) + tb.size := by omega
  have hd0 := kD5.cell 0
  have hd1 := kD5.cell 1
  have hd2 := kD5.cell 2
  simp at hd0 hd1 hd2
  cases hr : rightB neg ds sc with
  | false =>
    have hck := check_no hr (w4.alloc (.cells #[.int .i64 0, .int .i64 0] 53))
    clear hva5 hvb5 kD5 hw5 hna hnb hta htb hbig hr
    go_wp2_with fail
    generalize w4.alloc (.cells #[.int .i64 0, .int .i64 0] 53) = w5 at *
    refine hpra.mono ?_
    rintro e w' ⟨rfl, rfl⟩
    go_wp2_with fail
    refine hprb.mono ?_
    rintro e w' ⟨rfl, rfl⟩
    go_wp2_with fail
    refine hpra.mono ?_
    rintro e w' ⟨rfl, rfl⟩
    go_wp2_with fail
    refine hprb.mono ?_
    rintro e w' ⟨rfl, rfl⟩
    go_wp2_with fail
    refine hck.mono ?_
    rintro e w6 ⟨rfl, hB6⟩
    go_wp2_with fail
    go_ret
    exact ⟨rfl, hB5.trans (hB6.mono hB5.size)⟩
  | true =>
    have hck := check_yes hr (w4.alloc (.cells #[.int .i64 0, .int .i64 0] 53))
    have hz1 : ¬ 9223372036854775807 < ta.size + 4 := by omega
    have hz2 : ¬ 9223372036854775807 < ta.size + 4 + tb.size := by omega
    clear hta htb
    obtain ⟨po, tor, hro⟩ := rule_or HRA.out HRB.out hna hnb
    have HRO := Lib.hid hro; have HNA := Lib.hid hna; have HNB := Lib.hid hnb; have HBIG := Lib.hid hbig; have HR := Lib.hid hr
    clear hna hnb hbig hr hro
    go_wp2_with fail
    generalize w4.alloc (.cells #[.int .i64 0, .int .i64 0] 53) = w5 at *
    refine hpra.mono ?_
    rintro e w' ⟨rfl, rfl⟩
    go_wp2_with fail
    refine hprb.mono ?_
    rintro e w' ⟨rfl, rfl⟩
    go_wp2_with fail
    refine hpra.mono ?_
    rintro e w' ⟨rfl, rfl⟩
    go_wp2_with fail
    refine hprb.mono ?_
    rintro e w' ⟨rfl, rfl⟩
    go_wp2_with fail
    refine hck.mono ?_
    rintro e w6 ⟨rfl, hB6⟩
    have hB6' := hB5.trans (hB6.mono hB5.size)
    have hw6 := hw5.on hB6
    have hpo := parse_is HRO.out w6 (by rw [ByteArray.size_append, ByteArray.size_append]; show ta.size + 4 + tb.size ≤ 4096; have := HBIG.out; omega) hw6.pg
    have kD6 := kD5.on hB6
    have hva6 := hva5.on hB6
    have hvb6 := hvb5.on hB6
    have hpo : Calls Tryz.prog 25 #[.string (ta ++ ⟨#[32, 111, 114, 32]⟩ ++ tb)] w6 fun e w' => (∃ v, e = .returned (.tuple #[v, .agg #[.int .i64 0, .int .i64 0]]) ∧ RuleOn w6.heap.size w' v tor (rowsa ++ rowsb)) ∧ Below w6.heap.size w6 w' := hpo
    clear hpra hprb hck hd0 hd1 hd2 hx0 hy0 hva5 hvb5 kD5 hw5 hB6
    go_wp2_with fail
    refine hpo.mono ?_
    rintro e w7 ⟨⟨vo, rfl, hvo⟩, hB7⟩
    have hA7 := (Below.refl w7.heap.size w7).alloc (Nat.le_refl _) (.cells #[.int .i64 0, .int .i64 0] 53)
    have hB78 := hB7.trans (hA7.mono hB7.size)
    have hB8 := hB6'.trans (hB78.mono hB6'.size)
    have kE := Blk.new w7 #[.int .i64 0, .int .i64 0] 53
    have kD8 := kD6.on hB78
    have hva8 := hva6.on hB78
    have hvb8 := hvb6.on hB78
    have hvo8 := hvo.is.on hA7
    have hva7 := hva6.on hB7
    have hvb7 := hvb6.on hB7
    have hB7' := hB6'.trans (hB7.mono hB6'.size)
    have hlt7 : w.heap.size < w7.heap.size := by obtain ⟨_, h⟩ := kD6.on hB7; exact lt_some h
    have hw8 := hw6.on hB78
    obtain ⟨xo, xh, rfl, hvk⟩ := id hvo.is
    clear hpo hva6 hvb6 hvo hvk kD6 hw6 hB7
    have hB78 : Below w7.heap.size w7 (w7.alloc (.cells #[.int .i64 0, .int .i64 0] 53)) := hA7
    clear hA7
    go_wp2_with fail
    generalize w7.alloc (.cells #[.int .i64 0, .int .i64 0] 53) = w8 at *
    have hhold : ∀ (x : Value) (t : ByteArray) (rows : List (List Rl)), RuleAt w8 x t rows → ∀ W, Below w8.heap.size w8 W → Calls Tryz.prog 17 #[x, .agg #[.bool neg, .string ds, .int .i64 sc]] W fun e w' => e = .returned (.bool (metB neg ds sc rows)) ∧ Below W.heap.size W w' :=
      fun x t rows hx W hW => holds_any neg ds sc x t rows W (hx.on hW) (hw8.on hW).pg
    have hho := hhold _ _ _ hvo8
    have hha := hhold _ _ _ hva8
    have hhb := hhold _ _ _ hvb8
    have hom : metB neg ds sc (rowsa ++ rowsb) = (metB neg ds sc rowsa || metB neg ds sc rowsb) := or_met _ _
    rw [hom] at hho
    have hS := Hold2.mk kE kD8 (Below.refl w8.heap.size w8) (Nat.le_refl _)
    obtain ⟨HA, hHA⟩ : ∃ x, metB neg ds sc rowsa = x := ⟨_, rfl⟩
    obtain ⟨HB, hHB⟩ : ∃ x, metB neg ds sc rowsb = x := ⟨_, rfl⟩
    rw [hHA, hHB] at hho
    rw [hHA] at hha
    rw [hHB] at hhb
    have HHA := Lib.hid hHA; have HHB := Lib.hid hHB
    clear hhold hom hHA hHB hvo8 kE kD8
    go_upto_region 11 with fail
    cases HA with
    | true =>
      simp only [Bool.true_or] at hho
      refine wp_region_held_drew (S := fun w' => (∀ o, w'.cell? ⟨w7.heap.size, o, none⟩ = #[Value.int .i64 0, Value.int .i64 0][o]?) ∧ (∀ o, w'.cell? ⟨w.heap.size, o, none⟩ = #[Value.bool neg, Value.string ds, Value.int .i64 sc][o]?) ∧ Below w8.heap.size w8 w') (by kernel_rfl) (hS.drew.two) (fun hHeld => ?_)
      refine wpAnyH_take (i := 0) (v := ?_) rfl (by kernel_rfl) (by kernel_rfl) (by kernel_rfl) (fun _ _ _ h => h) (Or.inl ⟨by rfl, ?_⟩) hHeld ?_
      rotate_left
      · intro w hSw; (try dsimp only at hSw); first | (go_simp; done) | (go_simp; with_reducible rfl)
      try simp only [Act.put, List.setIfInBounds_toArray, List.set_cons_zero, List.set_cons_succ, List.getElem_toArray, List.getElem_cons_zero, List.getElem_cons_succ]
      refine wpAnyH_take (i := 1) (v := ?_) rfl (by kernel_rfl) (by kernel_rfl) (by kernel_rfl) (fun _ _ _ h => h) (Or.inl ⟨by rfl, ?_⟩) hHeld ?_
      rotate_left
      · intro w hSw; (try dsimp only at hSw); first | (go_simp; done) | (go_simp; with_reducible rfl)
      try simp only [Act.put, List.setIfInBounds_toArray, List.set_cons_zero, List.set_cons_succ, List.getElem_toArray, List.getElem_cons_zero, List.getElem_cons_succ]
      refine wpAnyH_take (i := 2) (v := ?_) rfl (by kernel_rfl) (by kernel_rfl) (by kernel_rfl) (fun _ _ _ h => h) (Or.inl ⟨by rfl, ?_⟩) hHeld ?_
      rotate_left
      · intro w hSw; (try dsimp only at hSw); first | (go_simp; done) | (go_simp; with_reducible rfl)
      try simp only [Act.put, List.setIfInBounds_toArray, List.set_cons_zero, List.set_cons_succ, List.getElem_toArray, List.getElem_cons_zero, List.getElem_cons_succ]
      refine wpAnyH_take (i := 3) (v := ?_) rfl (by kernel_rfl) (by kernel_rfl) (by kernel_rfl) (fun _ _ _ h => h) (Or.inl ⟨by rfl, ?_⟩) hHeld ?_
      rotate_left
      · intro w hSw; (try dsimp only at hSw); first | (go_simp; done) | (go_simp; with_reducible rfl)
      try simp only [Act.put, List.setIfInBounds_toArray, List.set_cons_zero, List.set_cons_succ, List.getElem_toArray, List.getElem_cons_zero, List.getElem_cons_succ]
      refine wpAnyH_take (i := 4) (v := ?_) rfl (by kernel_rfl) (by kernel_rfl) (by kernel_rfl) (fun _ _ _ h => h) (Or.inl ⟨by rfl, ?_⟩) hHeld ?_
      rotate_left
      · intro w hSw; (try dsimp only at hSw); first | (go_simp; done) | (go_simp; with_reducible rfl)
      try simp only [Act.put, List.setIfInBounds_toArray, List.set_cons_zero, List.set_cons_succ, List.getElem_toArray, List.getElem_cons_zero, List.getElem_cons_succ]
      refine wpAnyH_take (i := 5) (v := ?_) rfl (by kernel_rfl) (by kernel_rfl) (by kernel_rfl) (fun _ _ _ h => h) (Or.inl ⟨by rfl, ?_⟩) hHeld ?_
      rotate_left
      · intro w hSw; (try dsimp only at hSw); first | (go_simp; done) | (go_simp; with_reducible rfl)
      try simp only [Act.put, List.setIfInBounds_toArray, List.set_cons_zero, List.set_cons_succ, List.getElem_toArray, List.getElem_cons_zero, List.getElem_cons_succ]
      refine wpAnyH_take (i := 7) (v := ?_) rfl (by kernel_rfl) (by kernel_rfl) (by kernel_rfl) (fun _ _ _ h => h) (Or.inl ⟨by rfl, ?_⟩) hHeld ?_
      rotate_left
      · intro w hSw; (try dsimp only at hSw); first | (go_simp; done) | (go_simp; with_reducible rfl)
      try simp only [Act.put, List.setIfInBounds_toArray, List.set_cons_zero, List.set_cons_succ, List.getElem_toArray, List.getElem_cons_zero, List.getElem_cons_succ]
      refine wpAnyH_take (i := 8) (v := ?_) rfl (by kernel_rfl) (by kernel_rfl) (by kernel_rfl) (fun _ _ _ h => h) (Or.inl ⟨by rfl, ?_⟩) hHeld ?_
      rotate_left
      · intro w hSw; (try dsimp only at hSw); first | (go_simp; done) | (go_simp; with_reducible rfl)
      try simp only [Act.put, List.setIfInBounds_toArray, List.set_cons_zero, List.set_cons_succ, List.getElem_toArray, List.getElem_cons_zero, List.getElem_cons_succ]
      refine wpAnyH_ready (rs := [6]) (by kernel_rfl) (by simp) ?_
      refine AllReadyH.cons rfl (fun K hK => ?_) AllReadyH.nil
      go_simp
      go_wp2_with (go_at_call 17; refine (hold_call (hho _ hS.drew.2.2.2.2.1) hS.drew).mono ?_; rintro e wx ⟨rfl, hS3⟩)
      refine hK.out _ _ (hS3.two) (fun hHeld => ?_)
      clear hK K
      refine wpAnyH_ready (rs := [9]) (by kernel_rfl) (by simp) ?_
      refine AllReadyH.cons rfl (fun K hK => ?_) AllReadyH.nil
      go_simp
      go_wp2_with (go_at_call 17; refine (hold_call (hha _ hS3.2.2.2.2.1) hS3).mono ?_; rintro e wx ⟨rfl, hS3⟩)
      refine hK.out _ _ (hS3.two) (fun hHeld => ?_)
      clear hK K
      refine wpAnyH_take (i := 10) (v := ?_) rfl (by kernel_rfl) (by kernel_rfl) (by kernel_rfl) (fun _ _ _ h => h) (Or.inl ⟨by rfl, ?_⟩) hHeld ?_
      rotate_left
      · intro w hSw; (try dsimp only at hSw); first | (go_simp; done) | (go_simp; with_reducible rfl)
      try simp only [Act.put, List.setIfInBounds_toArray, List.set_cons_zero, List.set_cons_succ, List.getElem_toArray, List.getElem_cons_zero, List.getElem_cons_succ]
      refine wpAnyH_take (i := 11) (v := undef) rfl (by kernel_rfl) (by kernel_rfl) (by kernel_rfl) (fun _ _ _ h => h) (Or.inr ⟨by rfl, rfl⟩) hHeld ?_
      try simp only [Act.put, List.setIfInBounds_toArray, List.set_cons_zero, List.set_cons_succ, List.getElem_toArray, List.getElem_cons_zero, List.getElem_cons_succ]
      refine wpAnyH_take (i := 12) (v := undef) rfl (by kernel_rfl) (by kernel_rfl) (by kernel_rfl) (fun _ _ _ h => h) (Or.inr ⟨by rfl, rfl⟩) hHeld ?_
      try simp only [Act.put, List.setIfInBounds_toArray, List.set_cons_zero, List.set_cons_succ, List.getElem_toArray, List.getElem_cons_zero, List.getElem_cons_succ]
      refine wpAnyH_take (i := 13) (v := undef) rfl (by kernel_rfl) (by kernel_rfl) (by kernel_rfl) (fun _ _ _ h => h) (Or.inr ⟨by rfl, rfl⟩) hHeld ?_
      try simp only [Act.put, List.setIfInBounds_toArray, List.set_cons_zero, List.set_cons_succ, List.getElem_toArray, List.getElem_cons_zero, List.getElem_cons_succ]
      refine wpAnyH_take (i := 14) (v := ?_) rfl (by kernel_rfl) (by kernel_rfl) (by kernel_rfl) (fun _ _ _ h => h) (Or.inl ⟨by rfl, ?_⟩) hHeld ?_
      rotate_left
      · intro w hSw; (try dsimp only at hSw); first | (go_simp; done) | (go_simp; with_reducible rfl)
      try simp only [Act.put, List.setIfInBounds_toArray, List.set_cons_zero, List.set_cons_succ, List.getElem_toArray, List.getElem_cons_zero, List.getElem_cons_succ]
      refine wpAnyH_take (i := 15) (v := ?_) rfl (by kernel_rfl) (by kernel_rfl) (by kernel_rfl) (fun _ _ _ h => h) (Or.inl ⟨by rfl, ?_⟩) hHeld ?_
      rotate_left
      · intro w hSw; (try dsimp only at hSw); first | (go_simp; done) | (go_simp; with_reducible rfl)
      try simp only [Act.put, List.setIfInBounds_toArray, List.set_cons_zero, List.set_cons_succ, List.getElem_toArray, List.getElem_cons_zero, List.getElem_cons_succ]
      refine wpAnyH_take (i := 16) (v := ?_) rfl (by kernel_rfl) (by kernel_rfl) (by kernel_rfl) (fun _ _ _ h => h) (Or.inl ⟨by rfl, ?_⟩) hHeld ?_
      rotate_left
      · intro w hSw; (try dsimp only at hSw); first | (go_simp; done) | (go_simp; with_reducible rfl)
      try simp only [Act.put, List.setIfInBounds_toArray, List.set_cons_zero, List.set_cons_succ, List.getElem_toArray, List.getElem_cons_zero, List.getElem_cons_succ]
      refine wpAnyH_done (by kernel_rfl) ?_ _
      have hE := hS3.2.2.2.2.1
      obtain ⟨kE9, kD9⟩ := hS3.blk
      have hB9 := hB8.trans (hE.mono hB8.size)
      have hB79 := hB78.trans (hE.mono hB78.size)
      have hw9 := hw8.on hE
      clear hS3 hS hho hha hhb hva8 hvb8 hE
      go_wp2_with fail
      generalize wx = w9 at *
      go_loopg [13] (ta.size + tb.size + 1) (fun g s13 wr => ∃ i : Nat, s13 = .int .i64 (i : Int) ∧ g + i = ta.size + tb.size + 1 ∧ w9 = wr ∧ ∀ k, Has (ta ++ ⟨#[32]⟩ ++ tb) k orS → i ≤ k)
      case atStart => exact ⟨0, rfl, by omega, rfl, fun k _ => Nat.zero_le k⟩
      case round =>
        obtain ⟨i, rfl, hg, rfl, hk⟩ := hrel
        have HK := Lib.hid hk
        have HG := Lib.hid hg
        have hbg := HBIG.out
        have hi0 : (0 : Int) ≤ i := by omega
        have hiw4 : IntKind.i64.wrap ((i : Int) + 4) = (i : Int) + 4 := IntWalk.i64_in _ (by omega)
        have hiw1 : IntKind.i64.wrap ((i : Int) + 1) = (i : Int) + 1 := IntWalk.i64_in _ (by omega)
        have hz3 : ¬ 9223372036854775807 < ta.size + tb.size := by omega
        have hz4 : ¬ 9223372036854775807 < ta.size + 1 := by omega
        have hz5 : ¬ 9223372036854775807 < ta.size + 1 + tb.size := by omega
        by_cases hle : i + 4 ≤ ta.size + tb.size
        · have hI : (i : Int) + 4 ≤ (ta.size : Int) + tb.size := by omega
          have hI0 : (i : Int) + 4 ≤ ((ta.size + tb.size : Nat) : Int) := by omega
          have hI2 : (i : Int) ≤ (i : Int) + 4 := by omega
          have hI3 : ((i : Int) + 4).toNat = i + 4 := by omega
          have hI4 : (0 : Int) ≤ (i : Int) + 4 := by omega
          have hI5 : (i : Int) + 4 ≤ (ta.size : Int) + 1 + tb.size := by omega
          have hI6 : (i : Int) + 4 ≤ ((ta.size + 1 + tb.size : Nat) : Int) := by omega
          have hnext : (ta ++ ⟨#[32]⟩ ++ tb).extract i (i + 4) ≠ ⟨#[32, 111, 114, 32]⟩ → ∀ k, Has (ta ++ ⟨#[32]⟩ ++ tb) k orS → i + 1 ≤ k := fun h1 k hk => by
            have h3 := HK.out k hk
            by_cases e : i = k
            · subst e
              exact absurd hk.text h1
            · omega
          have HN := Lib.hid hnext
          clear hk hg hle hnext hbg
          by_cases hx : (ta ++ ⟨#[32]⟩ ++ tb).extract i (i + 4) = ⟨#[32, 111, 114, 32]⟩
          · have c1 := tl_yes (l := [32, 111, 114, 32]) hx
            clear hx
            go_wp2_with fail
            go_ret
            exact ⟨rfl, hB9⟩
          · have c1 := tl_no (l := [32, 111, 114, 32]) hx
            have HX := Lib.hid hx
            clear hx
            go_wp2_with fail
            go_roundg (ta.size + tb.size - i)
            case rel => exact ⟨i + 1, by simp, by have := HG.out; omega, rfl, HN.out HX.out⟩
            case measure => have := HG.out; omega
        · have hI : ¬ (i : Int) + 4 ≤ (ta.size : Int) + tb.size := by omega
          have hI0 : ¬ (i : Int) + 4 ≤ ((ta.size + tb.size : Nat) : Int) := by omega
          have hz6 : ¬ 9223372036854775807 < ta.size + 5 := by omega
          have hz7 : ¬ 9223372036854775807 < ta.size + 5 + tb.size := by omega
          obtain ⟨o1, o2⟩ := no_or hle HK.out
          obtain ⟨pn, tn, RA, RB, eA, eB, hrn⟩ := rule_and HRA.out HRB.out HNA.out HNB.out o1 o2
          have hnm : metB neg ds sc [RA ++ RB] = (metB neg ds sc [RA] && metB neg ds sc [RB]) := and_met RA RB
          rw [← eA, ← eB, HHA.out, HHB.out] at hnm
          simp only [Bool.true_and] at hnm
          have hpn : Calls Tryz.prog 25 #[.string (ta ++ ⟨#[32, 97, 110, 100, 32]⟩ ++ tb)] w9 fun e w' => (∃ v, e = .returned (.tuple #[v, .agg #[.int .i64 0, .int .i64 0]]) ∧ RuleOn w9.heap.size w' v tn [RA ++ RB]) ∧ Below w9.heap.size w9 w' :=
            parse_is hrn w9 (by rw [ByteArray.size_append, ByteArray.size_append]; show ta.size + 5 + tb.size ≤ 4096; omega) hw9.pg
          have HNM := Lib.hid hnm
          clear hk hg hle hbg o1 o2 hrn eA eB hnm
          go_upto_if 91 with fail
          first
            | rw [show decide ((i : Int) + 4 ≤ (ta.size : Int) + (tb.size : Int)) = false from decide_eq_false (by omega)]
            | rw [show decide ((i : Int) + 4 ≤ ((ta.size + tb.size : Nat) : Int)) = false from decide_eq_false (by omega)]
            | rw [show decide ((i : Int) + 4 ≤ ((ta ++ tb).size : Int)) = false from decide_eq_false (by rw [ByteArray.size_append]; omega)]
            | skip
          go_wp2_with fail
          refine hpn.mono ?_
          rintro e w10 ⟨⟨vn, rfl, hvn⟩, hB10⟩
          obtain ⟨xn, xl, rfl, hvk⟩ := id hvn
          have kE10 := kE9.on hB10
          have kD10 := kD9.on hB10
          have p0 := kE10.cell 0
          have p1 := kE10.cell 1
          have pf0 := kE10.free 0
          have pf1 := kE10.free 1
          simp at p0 p1
          have hlt9 : w7.heap.size < w9.heap.size := by obtain ⟨_, h⟩ := kE9; exact lt_some h
          have hB10' := hB9.trans (hB10.mono hB9.size)
          have hB7a := hB79.trans (hB10.mono hB79.size)
          have hB11 := (hB10'.setCell (p := ⟨w7.heap.size, 0, none⟩) (Nat.le_of_lt hlt7) (.int .i64 0)).setCell (p := ⟨w7.heap.size, 1, none⟩) (Nat.le_of_lt hlt7) (.int .i64 0)
          have hB7b := (hB7a.setCell (p := ⟨w7.heap.size, 0, none⟩) (Nat.le_refl _) (.int .i64 0)).setCell (p := ⟨w7.heap.size, 1, none⟩) (Nat.le_refl _) (.int .i64 0)
          have kE11 : Blk _ _ #[Value.int .i64 0, Value.int .i64 0] := (kE10.set 0 (.int .i64 0)).set 1 (.int .i64 0)
          have kD11 := (kD10.other w7.heap.size 0 (.int .i64 0) (Nat.ne_of_lt hlt7)).other w7.heap.size 1 (.int .i64 0) (Nat.ne_of_lt hlt7)
          have hvn11 := (hvn.up (Up.set ⟨w7.heap.size, 0, none⟩ (.int .i64 0) hlt9)).up (Up.set ⟨w7.heap.size, 1, none⟩ (.int .i64 0) hlt9)
          have hva11 := hva7.on hB7b
          have hvb11 := hvb7.on hB7b
          have hw11 := hw.on hB11
          clear hpn kE9 kD9 kE10 kD10 hvn hvk hB10 hB10' hB7a hB7b hlt9
          go_wp2_with fail
          generalize (w10.setCell ⟨w7.heap.size, 0, none⟩ (.int .i64 0)).setCell ⟨w7.heap.size, 1, none⟩ (.int .i64 0) = w11 at *
          clear p0 p1 pf0 pf1
          have hhold : ∀ (x : Value) (t : ByteArray) (rows : List (List Rl)), RuleAt w11 x t rows → ∀ W, Below w11.heap.size w11 W → Calls Tryz.prog 17 #[x, .agg #[.bool neg, .string ds, .int .i64 sc]] W fun e w' => e = .returned (.bool (metB neg ds sc rows)) ∧ Below W.heap.size W w' :=
            fun x t rows hx W hW => holds_any neg ds sc x t rows W (hx.on hW) (hw11.on hW).pg
          have hhn := hhold _ _ _ hvn11.is
          have hha := hhold _ _ _ hva11
          have hhb := hhold _ _ _ hvb11
          rw [HNM.out] at hhn
          rw [HHA.out] at hha
          rw [HHB.out] at hhb
          have hS := Hold2.mk kE11 kD11 (Below.refl w11.heap.size w11) (Nat.le_refl _)
          clear hhold hvn11 hva11 hvb11 kE11 kD11 hw11
          refine wp_region_held_drew (S := fun w' => (∀ o, w'.cell? ⟨w7.heap.size, o, none⟩ = #[Value.int .i64 0, Value.int .i64 0][o]?) ∧ (∀ o, w'.cell? ⟨w.heap.size, o, none⟩ = #[Value.bool neg, Value.string ds, Value.int .i64 sc][o]?) ∧ Below w11.heap.size w11 w') (by kernel_rfl) (hS.drew.two) (fun hHeld => ?_)
          refine wpAnyH_take (i := 0) (v := ?_) rfl (by kernel_rfl) (by kernel_rfl) (by kernel_rfl) (fun _ _ _ h => h) (Or.inl ⟨by rfl, ?_⟩) hHeld ?_
          rotate_left
          · intro w hSw; (try dsimp only at hSw); first | (go_simp; done) | (go_simp; with_reducible rfl)
          try simp only [Act.put, List.setIfInBounds_toArray, List.set_cons_zero, List.set_cons_succ, List.getElem_toArray, List.getElem_cons_zero, List.getElem_cons_succ]
          refine wpAnyH_take (i := 1) (v := ?_) rfl (by kernel_rfl) (by kernel_rfl) (by kernel_rfl) (fun _ _ _ h => h) (Or.inl ⟨by rfl, ?_⟩) hHeld ?_
          rotate_left
          · intro w hSw; (try dsimp only at hSw); first | (go_simp; done) | (go_simp; with_reducible rfl)
          try simp only [Act.put, List.setIfInBounds_toArray, List.set_cons_zero, List.set_cons_succ, List.getElem_toArray, List.getElem_cons_zero, List.getElem_cons_succ]
          refine wpAnyH_take (i := 2) (v := ?_) rfl (by kernel_rfl) (by kernel_rfl) (by kernel_rfl) (fun _ _ _ h => h) (Or.inl ⟨by rfl, ?_⟩) hHeld ?_
          rotate_left
          · intro w hSw; (try dsimp only at hSw); first | (go_simp; done) | (go_simp; with_reducible rfl)
          try simp only [Act.put, List.setIfInBounds_toArray, List.set_cons_zero, List.set_cons_succ, List.getElem_toArray, List.getElem_cons_zero, List.getElem_cons_succ]
          refine wpAnyH_take (i := 3) (v := ?_) rfl (by kernel_rfl) (by kernel_rfl) (by kernel_rfl) (fun _ _ _ h => h) (Or.inl ⟨by rfl, ?_⟩) hHeld ?_
          rotate_left
          · intro w hSw; (try dsimp only at hSw); first | (go_simp; done) | (go_simp; with_reducible rfl)
          try simp only [Act.put, List.setIfInBounds_toArray, List.set_cons_zero, List.set_cons_succ, List.getElem_toArray, List.getElem_cons_zero, List.getElem_cons_succ]
          refine wpAnyH_take (i := 4) (v := ?_) rfl (by kernel_rfl) (by kernel_rfl) (by kernel_rfl) (fun _ _ _ h => h) (Or.inl ⟨by rfl, ?_⟩) hHeld ?_
          rotate_left
          · intro w hSw; (try dsimp only at hSw); first | (go_simp; done) | (go_simp; with_reducible rfl)
          try simp only [Act.put, List.setIfInBounds_toArray, List.set_cons_zero, List.set_cons_succ, List.getElem_toArray, List.getElem_cons_zero, List.getElem_cons_succ]
          refine wpAnyH_take (i := 5) (v := ?_) rfl (by kernel_rfl) (by kernel_rfl) (by kernel_rfl) (fun _ _ _ h => h) (Or.inl ⟨by rfl, ?_⟩) hHeld ?_
          rotate_left
          · intro w hSw; (try dsimp only at hSw); first | (go_simp; done) | (go_simp; with_reducible rfl)
          try simp only [Act.put, List.setIfInBounds_toArray, List.set_cons_zero, List.set_cons_succ, List.getElem_toArray, List.getElem_cons_zero, List.getElem_cons_succ]
          refine wpAnyH_take (i := 7) (v := ?_) rfl (by kernel_rfl) (by kernel_rfl) (by kernel_rfl) (fun _ _ _ h => h) (Or.inl ⟨by rfl, ?_⟩) hHeld ?_
          rotate_left
          · intro w hSw; (try dsimp only at hSw); first | (go_simp; done) | (go_simp; with_reducible rfl)
          try simp only [Act.put, List.setIfInBounds_toArray, List.set_cons_zero, List.set_cons_succ, List.getElem_toArray, List.getElem_cons_zero, List.getElem_cons_succ]
          refine wpAnyH_take (i := 8) (v := ?_) rfl (by kernel_rfl) (by kernel_rfl) (by kernel_rfl) (fun _ _ _ h => h) (Or.inl ⟨by rfl, ?_⟩) hHeld ?_
          rotate_left
          · intro w hSw; (try dsimp only at hSw); first | (go_simp; done) | (go_simp; with_reducible rfl)
          try simp only [Act.put, List.setIfInBounds_toArray, List.set_cons_zero, List.set_cons_succ, List.getElem_toArray, List.getElem_cons_zero, List.getElem_cons_succ]
          refine wpAnyH_ready (rs := [6]) (by kernel_rfl) (by simp) ?_
          refine AllReadyH.cons rfl (fun K hK => ?_) AllReadyH.nil
          go_simp
          go_wp2_with (go_at_call 17; refine (hold_call (hhn _ hS.drew.2.2.2.2.1) hS.drew).mono ?_; rintro e wx ⟨rfl, hS3⟩)
          refine hK.out _ _ (hS3.two) (fun hHeld => ?_)
          clear hK K
          refine wpAnyH_ready (rs := [9]) (by kernel_rfl) (by simp) ?_
          refine AllReadyH.cons rfl (fun K hK => ?_) AllReadyH.nil
          go_simp
          go_wp2_with (go_at_call 17; refine (hold_call (hha _ hS3.2.2.2.2.1) hS3).mono ?_; rintro e wx ⟨rfl, hS3⟩)
          refine hK.out _ _ (hS3.two) (fun hHeld => ?_)
          clear hK K
          refine wpAnyH_take (i := 10) (v := ?_) rfl (by kernel_rfl) (by kernel_rfl) (by kernel_rfl) (fun _ _ _ h => h) (Or.inl ⟨by rfl, ?_⟩) hHeld ?_
          rotate_left
          · intro w hSw; (try dsimp only at hSw); first | (go_simp; done) | (go_simp; with_reducible rfl)
          try simp only [Act.put, List.setIfInBounds_toArray, List.set_cons_zero, List.set_cons_succ, List.getElem_toArray, List.getElem_cons_zero, List.getElem_cons_succ]
          refine wpAnyH_take (i := 11) (v := ?_) rfl (by kernel_rfl) (by kernel_rfl) (by kernel_rfl) (fun _ _ _ h => h) (Or.inl ⟨by rfl, ?_⟩) hHeld ?_
          rotate_left
          · intro w hSw; (try dsimp only at hSw); first | (go_simp; done) | (go_simp; with_reducible rfl)
          try simp only [Act.put, List.setIfInBounds_toArray, List.set_cons_zero, List.set_cons_succ, List.getElem_toArray, List.getElem_cons_zero, List.getElem_cons_succ]
          refine wpAnyH_take (i := 12) (v := ?_) rfl (by kernel_rfl) (by kernel_rfl) (by kernel_rfl) (fun _ _ _ h => h) (Or.inl ⟨by rfl, ?_⟩) hHeld ?_
          rotate_left
          · intro w hSw; (try dsimp only at hSw); first | (go_simp; done) | (go_simp; with_reducible rfl)
          try simp only [Act.put, List.setIfInBounds_toArray, List.set_cons_zero, List.set_cons_succ, List.getElem_toArray, List.getElem_cons_zero, List.getElem_cons_succ]
          refine wpAnyH_ready (rs := [13]) (by kernel_rfl) (by simp) ?_
          refine AllReadyH.cons rfl (fun K hK => ?_) AllReadyH.nil
          go_simp
          go_wp2_with (go_at_call 17; refine (hold_call (hhb _ hS3.2.2.2.2.1) hS3).mono ?_; rintro e wx ⟨rfl, hS3⟩)
          refine hK.out _ _ (hS3.two) (fun hHeld => ?_)
          clear hK K
          refine wpAnyH_take (i := 14) (v := ?_) rfl (by kernel_rfl) (by kernel_rfl) (by kernel_rfl) (fun _ _ _ h => h) (Or.inl ⟨by rfl, ?_⟩) hHeld ?_
          rotate_left
          · intro w hSw; (try dsimp only at hSw); first | (go_simp; done) | (go_simp; with_reducible rfl)
          try simp only [Act.put, List.setIfInBounds_toArray, List.set_cons_zero, List.set_cons_succ, List.getElem_toArray, List.getElem_cons_zero, List.getElem_cons_succ]
          refine wpAnyH_take (i := 15) (v := ?_) rfl (by kernel_rfl) (by kernel_rfl) (by kernel_rfl) (fun _ _ _ h => h) (Or.inl ⟨by rfl, ?_⟩) hHeld ?_
          rotate_left
          · intro w hSw; (try dsimp only at hSw); first | (go_simp; done) | (go_simp; with_reducible rfl)
          try simp only [Act.put, List.setIfInBounds_toArray, List.set_cons_zero, List.set_cons_succ, List.getElem_toArray, List.getElem_cons_zero, List.getElem_cons_succ]
          refine wpAnyH_take (i := 16) (v := ?_) rfl (by kernel_rfl) (by kernel_rfl) (by kernel_rfl) (fun _ _ _ h => h) (Or.inl ⟨by rfl, ?_⟩) hHeld ?_
          rotate_left
          · intro w hSw; (try dsimp only at hSw); first | (go_simp; done) | (go_simp; with_reducible rfl)
          try simp only [Act.put, List.setIfInBounds_toArray, List.set_cons_zero, List.set_cons_succ, List.getElem_toArray, List.getElem_cons_zero, List.getElem_cons_succ]
          refine wpAnyH_take (i := 17) (v := ?_) rfl (by kernel_rfl) (by kernel_rfl) (by kernel_rfl) (fun _ _ _ h => h) (Or.inl ⟨by rfl, ?_⟩) hHeld ?_
          rotate_left
          · intro w hSw; (try dsimp only at hSw); first | (go_simp; done) | (go_simp; with_reducible rfl)
          try simp only [Act.put, List.setIfInBounds_toArray, List.set_cons_zero, List.set_cons_succ, List.getElem_toArray, List.getElem_cons_zero, List.getElem_cons_succ]
          refine wpAnyH_done (by kernel_rfl) ?_ _
          have hE := hS3.2.2.2.2.1
          clear hS3 hS hhn hha hhb
          go_wp2_with fail
          go_ret
          exact ⟨rfl, hB11.trans (hE.mono hB11.size)⟩
    | false =>
      simp only [Bool.false_or] at hho
      refine wp_region_held_drew (S := fun w' => (∀ o, w'.cell? ⟨w7.heap.size, o, none⟩ = #[Value.int .i64 0, Value.int .i64 0][o]?) ∧ (∀ o, w'.cell? ⟨w.heap.size, o, none⟩ = #[Value.bool neg, Value.string ds, Value.int .i64 sc][o]?) ∧ Below w8.heap.size w8 w') (by kernel_rfl) (hS.drew.two) (fun hHeld => ?_)
      refine wpAnyH_take (i := 0) (v := ?_) rfl (by kernel_rfl) (by kernel_rfl) (by kernel_rfl) (fun _ _ _ h => h) (Or.inl ⟨by rfl, ?_⟩) hHeld ?_
      rotate_left
      · intro w hSw; (try dsimp only at hSw); first | (go_simp; done) | (go_simp; with_reducible rfl)
      try simp only [Act.put, List.setIfInBounds_toArray, List.set_cons_zero, List.set_cons_succ, List.getElem_toArray, List.getElem_cons_zero, List.getElem_cons_succ]
      refine wpAnyH_take (i := 1) (v := ?_) rfl (by kernel_rfl) (by kernel_rfl) (by kernel_rfl) (fun _ _ _ h => h) (Or.inl ⟨by rfl, ?_⟩) hHeld ?_
      rotate_left
      · intro w hSw; (try dsimp only at hSw); first | (go_simp; done) | (go_simp; with_reducible rfl)
      try simp only [Act.put, List.setIfInBounds_toArray, List.set_cons_zero, List.set_cons_succ, List.getElem_toArray, List.getElem_cons_zero, List.getElem_cons_succ]
      refine wpAnyH_take (i := 2) (v := ?_) rfl (by kernel_rfl) (by kernel_rfl) (by kernel_rfl) (fun _ _ _ h => h) (Or.inl ⟨by rfl, ?_⟩) hHeld ?_
      rotate_left
      · intro w hSw; (try dsimp only at hSw); first | (go_simp; done) | (go_simp; with_reducible rfl)
      try simp only [Act.put, List.setIfInBounds_toArray, List.set_cons_zero, List.set_cons_succ, List.getElem_toArray, List.getElem_cons_zero, List.getElem_cons_succ]
      refine wpAnyH_take (i := 3) (v := ?_) rfl (by kernel_rfl) (by kernel_rfl) (by kernel_rfl) (fun _ _ _ h => h) (Or.inl ⟨by rfl, ?_⟩) hHeld ?_
      rotate_left
      · intro w hSw; (try dsimp only at hSw); first | (go_simp; done) | (go_simp; with_reducible rfl)
      try simp only [Act.put, List.setIfInBounds_toArray, List.set_cons_zero, List.set_cons_succ, List.getElem_toArray, List.getElem_cons_zero, List.getElem_cons_succ]
      refine wpAnyH_take (i := 4) (v := ?_) rfl (by kernel_rfl) (by kernel_rfl) (by kernel_rfl) (fun _ _ _ h => h) (Or.inl ⟨by rfl, ?_⟩) hHeld ?_
      rotate_left
      · intro w hSw; (try dsimp only at hSw); first | (go_simp; done) | (go_simp; with_reducible rfl)
      try simp only [Act.put, List.setIfInBounds_toArray, List.set_cons_zero, List.set_cons_succ, List.getElem_toArray, List.getElem_cons_zero, List.getElem_cons_succ]
      refine wpAnyH_take (i := 5) (v := ?_) rfl (by kernel_rfl) (by kernel_rfl) (by kernel_rfl) (fun _ _ _ h => h) (Or.inl ⟨by rfl, ?_⟩) hHeld ?_
      rotate_left
      · intro w hSw; (try dsimp only at hSw); first | (go_simp; done) | (go_simp; with_reducible rfl)
      try simp only [Act.put, List.setIfInBounds_toArray, List.set_cons_zero, List.set_cons_succ, List.getElem_toArray, List.getElem_cons_zero, List.getElem_cons_succ]
      refine wpAnyH_take (i := 7) (v := ?_) rfl (by kernel_rfl) (by kernel_rfl) (by kernel_rfl) (fun _ _ _ h => h) (Or.inl ⟨by rfl, ?_⟩) hHeld ?_
      rotate_left
      · intro w hSw; (try dsimp only at hSw); first | (go_simp; done) | (go_simp; with_reducible rfl)
      try simp only [Act.put, List.setIfInBounds_toArray, List.set_cons_zero, List.set_cons_succ, List.getElem_toArray, List.getElem_cons_zero, List.getElem_cons_succ]
      refine wpAnyH_take (i := 8) (v := ?_) rfl (by kernel_rfl) (by kernel_rfl) (by kernel_rfl) (fun _ _ _ h => h) (Or.inl ⟨by rfl, ?_⟩) hHeld ?_
      rotate_left
      · intro w hSw; (try dsimp only at hSw); first | (go_simp; done) | (go_simp; with_reducible rfl)
      try simp only [Act.put, List.setIfInBounds_toArray, List.set_cons_zero, List.set_cons_succ, List.getElem_toArray, List.getElem_cons_zero, List.getElem_cons_succ]
      refine wpAnyH_ready (rs := [6]) (by kernel_rfl) (by simp) ?_
      refine AllReadyH.cons rfl (fun K hK => ?_) AllReadyH.nil
      go_simp
      go_wp2_with (go_at_call 17; refine (hold_call (hho _ hS.drew.2.2.2.2.1) hS.drew).mono ?_; rintro e wx ⟨rfl, hS3⟩)
      refine hK.out _ _ (hS3.two) (fun hHeld => ?_)
      clear hK K
      refine wpAnyH_ready (rs := [9]) (by kernel_rfl) (by simp) ?_
      refine AllReadyH.cons rfl (fun K hK => ?_) AllReadyH.nil
      go_simp
      go_wp2_with (go_at_call 17; refine (hold_call (hha _ hS3.2.2.2.2.1) hS3).mono ?_; rintro e wx ⟨rfl, hS3⟩)
      refine hK.out _ _ (hS3.two) (fun hHeld => ?_)
      clear hK K
      refine wpAnyH_take (i := 10) (v := ?_) rfl (by kernel_rfl) (by kernel_rfl) (by kernel_rfl) (fun _ _ _ h => h) (Or.inl ⟨by rfl, ?_⟩) hHeld ?_
      rotate_left
      · intro w hSw; (try dsimp only at hSw); first | (go_simp; done) | (go_simp; with_reducible rfl)
      try simp only [Act.put, List.setIfInBounds_toArray, List.set_cons_zero, List.set_cons_succ, List.getElem_toArray, List.getElem_cons_zero, List.getElem_cons_succ]
      refine wpAnyH_take (i := 11) (v := ?_) rfl (by kernel_rfl) (by kernel_rfl) (by kernel_rfl) (fun _ _ _ h => h) (Or.inl ⟨by rfl, ?_⟩) hHeld ?_
      rotate_left
      · intro w hSw; (try dsimp only at hSw); first | (go_simp; done) | (go_simp; with_reducible rfl)
      try simp only [Act.put, List.setIfInBounds_toArray, List.set_cons_zero, List.set_cons_succ, List.getElem_toArray, List.getElem_cons_zero, List.getElem_cons_succ]
      refine wpAnyH_take (i := 12) (v := ?_) rfl (by kernel_rfl) (by kernel_rfl) (by kernel_rfl) (fun _ _ _ h => h) (Or.inl ⟨by rfl, ?_⟩) hHeld ?_
      rotate_left
      · intro w hSw; (try dsimp only at hSw); first | (go_simp; done) | (go_simp; with_reducible rfl)
      try simp only [Act.put, List.setIfInBounds_toArray, List.set_cons_zero, List.set_cons_succ, List.getElem_toArray, List.getElem_cons_zero, List.getElem_cons_succ]
      refine wpAnyH_ready (rs := [13]) (by kernel_rfl) (by simp) ?_
      refine AllReadyH.cons rfl (fun K hK => ?_) AllReadyH.nil
      go_simp
      go_wp2_with (go_at_call 17; refine (hold_call (hhb _ hS3.2.2.2.2.1) hS3).mono ?_; rintro e wx ⟨rfl, hS3⟩)
      refine hK.out _ _ (hS3.two) (fun hHeld => ?_)
      clear hK K
      refine wpAnyH_take (i := 14) (v := ?_) rfl (by kernel_rfl) (by kernel_rfl) (by kernel_rfl) (fun _ _ _ h => h) (Or.inl ⟨by rfl, ?_⟩) hHeld ?_
      rotate_left
      · intro w hSw; (try dsimp only at hSw); first | (go_simp; done) | (go_simp; with_reducible rfl)
      try simp only [Act.put, List.setIfInBounds_toArray, List.set_cons_zero, List.set_cons_succ, List.getElem_toArray, List.getElem_cons_zero, List.getElem_cons_succ]
      refine wpAnyH_take (i := 15) (v := ?_) rfl (by kernel_rfl) (by kernel_rfl) (by kernel_rfl) (fun _ _ _ h => h) (Or.inl ⟨by rfl, ?_⟩) hHeld ?_
      rotate_left
      · intro w hSw; (try dsimp only at hSw); first | (go_simp; done) | (go_simp; with_reducible rfl)
      try simp only [Act.put, List.setIfInBounds_toArray, List.set_cons_zero, List.set_cons_succ, List.getElem_toArray, List.getElem_cons_zero, List.getElem_cons_succ]
      refine wpAnyH_take (i := 16) (v := ?_) rfl (by kernel_rfl) (by kernel_rfl) (by kernel_rfl) (fun _ _ _ h => h) (Or.inl ⟨by rfl, ?_⟩) hHeld ?_
      rotate_left
      · intro w hSw; (try dsimp only at hSw); first | (go_simp; done) | (go_simp; with_reducible rfl)
      try simp only [Act.put, List.setIfInBounds_toArray, List.set_cons_zero, List.set_cons_succ, List.getElem_toArray, List.getElem_cons_zero, List.getElem_cons_succ]
      refine wpAnyH_done (by kernel_rfl) ?_ _
      have hE := hS3.2.2.2.2.1
      obtain ⟨kE9, kD9⟩ := hS3.blk
      have hB9 := hB8.trans (hE.mono hB8.size)
      have hB79 := hB78.trans (hE.mono hB78.size)
      have hw9 := hw8.on hE
      clear hS3 hS hho hha hhb hva8 hvb8 hE
      go_wp2_with fail
      generalize wx = w9 at *
      go_loopg [13] (ta.size + tb.size + 1) (fun g s13 wr => ∃ i : Nat, s13 = .int .i64 (i : Int) ∧ g + i = ta.size + tb.size + 1 ∧ w9 = wr ∧ ∀ k, Has (ta ++ ⟨#[32]⟩ ++ tb) k orS → i ≤ k)
      case atStart => exact ⟨0, rfl, by omega, rfl, fun k _ => Nat.zero_le k⟩
      case round =>
        obtain ⟨i, rfl, hg, rfl, hk⟩ := hrel
        have HK := Lib.hid hk
        have HG := Lib.hid hg
        have hbg := HBIG.out
        have hi0 : (0 : Int) ≤ i := by omega
        have hiw4 : IntKind.i64.wrap ((i : Int) + 4) = (i : Int) + 4 := IntWalk.i64_in _ (by omega)
        have hiw1 : IntKind.i64.wrap ((i : Int) + 1) = (i : Int) + 1 := IntWalk.i64_in _ (by omega)
        have hz3 : ¬ 9223372036854775807 < ta.size + tb.size := by omega
        have hz4 : ¬ 9223372036854775807 < ta.size + 1 := by omega
        have hz5 : ¬ 9223372036854775807 < ta.size + 1 + tb.size := by omega
        by_cases hle : i + 4 ≤ ta.size + tb.size
        · have hI : (i : Int) + 4 ≤ (ta.size : Int) + tb.size := by omega
          have hI0 : (i : Int) + 4 ≤ ((ta.size + tb.size : Nat) : Int) := by omega
          have hI2 : (i : Int) ≤ (i : Int) + 4 := by omega
          have hI3 : ((i : Int) + 4).toNat = i + 4 := by omega
          have hI4 : (0 : Int) ≤ (i : Int) + 4 := by omega
          have hI5 : (i : Int) + 4 ≤ (ta.size : Int) + 1 + tb.size := by omega
          have hI6 : (i : Int) + 4 ≤ ((ta.size + 1 + tb.size : Nat) : Int) := by omega
          have hnext : (ta ++ ⟨#[32]⟩ ++ tb).extract i (i + 4) ≠ ⟨#[32, 111, 114, 32]⟩ → ∀ k, Has (ta ++ ⟨#[32]⟩ ++ tb) k orS → i + 1 ≤ k := fun h1 k hk => by
            have h3 := HK.out k hk
            by_cases e : i = k
            · subst e
              exact absurd hk.text h1
            · omega
          have HN := Lib.hid hnext
          clear hk hg hle hnext hbg
          by_cases hx : (ta ++ ⟨#[32]⟩ ++ tb).extract i (i + 4) = ⟨#[32, 111, 114, 32]⟩
          · have c1 := tl_yes (l := [32, 111, 114, 32]) hx
            clear hx
            go_wp2_with fail
            go_ret
            exact ⟨rfl, hB9⟩
          · have c1 := tl_no (l := [32, 111, 114, 32]) hx
            have HX := Lib.hid hx
            clear hx
            go_wp2_with fail
            go_roundg (ta.size + tb.size - i)
            case rel => exact ⟨i + 1, by simp, by have := HG.out; omega, rfl, HN.out HX.out⟩
            case measure => have := HG.out; omega
        · have hI : ¬ (i : Int) + 4 ≤ (ta.size : Int) + tb.size := by omega
          have hI0 : ¬ (i : Int) + 4 ≤ ((ta.size + tb.size : Nat) : Int) := by omega
          have hz6 : ¬ 9223372036854775807 < ta.size + 5 := by omega
          have hz7 : ¬ 9223372036854775807 < ta.size + 5 + tb.size := by omega
          obtain ⟨o1, o2⟩ := no_or hle HK.out
          obtain ⟨pn, tn, RA, RB, eA, eB, hrn⟩ := rule_and HRA.out HRB.out HNA.out HNB.out o1 o2
          have hnm : metB neg ds sc [RA ++ RB] = (metB neg ds sc [RA] && metB neg ds sc [RB]) := and_met RA RB
          rw [← eA, ← eB, HHA.out, HHB.out] at hnm
          simp only [Bool.false_and] at hnm
          have hpn : Calls Tryz.prog 25 #[.string (ta ++ ⟨#[32, 97, 110, 100, 32]⟩ ++ tb)] w9 fun e w' => (∃ v, e = .returned (.tuple #[v, .agg #[.int .i64 0, .int .i64 0]]) ∧ RuleOn w9.heap.size w' v tn [RA ++ RB]) ∧ Below w9.heap.size w9 w' :=
            parse_is hrn w9 (by rw [ByteArray.size_append, ByteArray.size_append]; show ta.size + 5 + tb.size ≤ 4096; omega) hw9.pg
          have HNM := Lib.hid hnm
          clear hk hg hle hbg o1 o2 hrn eA eB hnm
          go_upto_if 91 with fail
          first
            | rw [show decide ((i : Int) + 4 ≤ (ta.size : Int) + (tb.size : Int)) = false from decide_eq_false (by omega)]
            | rw [show decide ((i : Int) + 4 ≤ ((ta.size + tb.size : Nat) : Int)) = false from decide_eq_false (by omega)]
            | rw [show decide ((i : Int) + 4 ≤ ((ta ++ tb).size : Int)) = false from decide_eq_false (by rw [ByteArray.size_append]; omega)]
            | skip
          go_wp2_with fail
          refine hpn.mono ?_
          rintro e w10 ⟨⟨vn, rfl, hvn⟩, hB10⟩
          obtain ⟨xn, xl, rfl, hvk⟩ := id hvn
          have kE10 := kE9.on hB10
          have kD10 := kD9.on hB10
          have p0 := kE10.cell 0
          have p1 := kE10.cell 1
          have pf0 := kE10.free 0
          have pf1 := kE10.free 1
          simp at p0 p1
          have hlt9 : w7.heap.size < w9.heap.size := by obtain ⟨_, h⟩ := kE9; exact lt_some h
          have hB10' := hB9.trans (hB10.mono hB9.size)
          have hB7a := hB79.trans (hB10.mono hB79.size)
          have hB11 := (hB10'.setCell (p := ⟨w7.heap.size, 0, none⟩) (Nat.le_of_lt hlt7) (.int .i64 0)).setCell (p := ⟨w7.heap.size, 1, none⟩) (Nat.le_of_lt hlt7) (.int .i64 0)
          have hB7b := (hB7a.setCell (p := ⟨w7.heap.size, 0, none⟩) (Nat.le_refl _) (.int .i64 0)).setCell (p := ⟨w7.heap.size, 1, none⟩) (Nat.le_refl _) (.int .i64 0)
          have kE11 : Blk _ _ #[Value.int .i64 0, Value.int .i64 0] := (kE10.set 0 (.int .i64 0)).set 1 (.int .i64 0)
          have kD11 := (kD10.other w7.heap.size 0 (.int .i64 0) (Nat.ne_of_lt hlt7)).other w7.heap.size 1 (.int .i64 0) (Nat.ne_of_lt hlt7)
          have hvn11 := (hvn.up (Up.set ⟨w7.heap.size, 0, none⟩ (.int .i64 0) hlt9)).up (Up.set ⟨w7.heap.size, 1, none⟩ (.int .i64 0) hlt9)
          have hva11 := hva7.on hB7b
          have hvb11 := hvb7.on hB7b
          have hw11 := hw.on hB11
          clear hpn kE9 kD9 kE10 kD10 hvn hvk hB10 hB10' hB7a hB7b hlt9
          go_wp2_with fail
          generalize (w10.setCell ⟨w7.heap.size, 0, none⟩ (.int .i64 0)).setCell ⟨w7.heap.size, 1, none⟩ (.int .i64 0) = w11 at *
          clear p0 p1 pf0 pf1
          have hhold : ∀ (x : Value) (t : ByteArray) (rows : List (List Rl)), RuleAt w11 x t rows → ∀ W, Below w11.heap.size w11 W → Calls Tryz.prog 17 #[x, .agg #[.bool neg, .string ds, .int .i64 sc]] W fun e w' => e = .returned (.bool (metB neg ds sc rows)) ∧ Below W.heap.size W w' :=
            fun x t rows hx W hW => holds_any neg ds sc x t rows W (hx.on hW) (hw11.on hW).pg
          have hhn := hhold _ _ _ hvn11.is
          have hha := hhold _ _ _ hva11
          have hhb := hhold _ _ _ hvb11
          rw [HNM.out] at hhn
          rw [HHA.out] at hha
          rw [HHB.out] at hhb
          have hS := Hold2.mk kE11 kD11 (Below.refl w11.heap.size w11) (Nat.le_refl _)
          clear hhold hvn11 hva11 hvb11 kE11 kD11 hw11
          refine wp_region_held_drew (S := fun w' => (∀ o, w'.cell? ⟨w7.heap.size, o, none⟩ = #[Value.int .i64 0, Value.int .i64 0][o]?) ∧ (∀ o, w'.cell? ⟨w.heap.size, o, none⟩ = #[Value.bool neg, Value.string ds, Value.int .i64 sc][o]?) ∧ Below w11.heap.size w11 w') (by kernel_rfl) (hS.drew.two) (fun hHeld => ?_)
          refine wpAnyH_take (i := 0) (v := ?_) rfl (by kernel_rfl) (by kernel_rfl) (by kernel_rfl) (fun _ _ _ h => h) (Or.inl ⟨by rfl, ?_⟩) hHeld ?_
          rotate_left
          · intro w hSw; (try dsimp only at hSw); first | (go_simp; done) | (go_simp; with_reducible rfl)
          try simp only [Act.put, List.setIfInBounds_toArray, List.set_cons_zero, List.set_cons_succ, List.getElem_toArray, List.getElem_cons_zero, List.getElem_cons_succ]
          refine wpAnyH_take (i := 1) (v := ?_) rfl (by kernel_rfl) (by kernel_rfl) (by kernel_rfl) (fun _ _ _ h => h) (Or.inl ⟨by rfl, ?_⟩) hHeld ?_
          rotate_left
          · intro w hSw; (try dsimp only at hSw); first | (go_simp; done) | (go_simp; with_reducible rfl)
          try simp only [Act.put, List.setIfInBounds_toArray, List.set_cons_zero, List.set_cons_succ, List.getElem_toArray, List.getElem_cons_zero, List.getElem_cons_succ]
          refine wpAnyH_take (i := 2) (v := ?_) rfl (by kernel_rfl) (by kernel_rfl) (by kernel_rfl) (fun _ _ _ h => h) (Or.inl ⟨by rfl, ?_⟩) hHeld ?_
          rotate_left
          · intro w hSw; (try dsimp only at hSw); first | (go_simp; done) | (go_simp; with_reducible rfl)
          try simp only [Act.put, List.setIfInBounds_toArray, List.set_cons_zero, List.set_cons_succ, List.getElem_toArray, List.getElem_cons_zero, List.getElem_cons_succ]
          refine wpAnyH_take (i := 3) (v := ?_) rfl (by kernel_rfl) (by kernel_rfl) (by kernel_rfl) (fun _ _ _ h => h) (Or.inl ⟨by rfl, ?_⟩) hHeld ?_
          rotate_left
          · intro w hSw; (try dsimp only at hSw); first | (go_simp; done) | (go_simp; with_reducible rfl)
          try simp only [Act.put, List.setIfInBounds_toArray, List.set_cons_zero, List.set_cons_succ, List.getElem_toArray, List.getElem_cons_zero, List.getElem_cons_succ]
          refine wpAnyH_take (i := 4) (v := ?_) rfl (by kernel_rfl) (by kernel_rfl) (by kernel_rfl) (fun _ _ _ h => h) (Or.inl ⟨by rfl, ?_⟩) hHeld ?_
          rotate_left
          · intro w hSw; (try dsimp only at hSw); first | (go_simp; done) | (go_simp; with_reducible rfl)
          try simp only [Act.put, List.setIfInBounds_toArray, List.set_cons_zero, List.set_cons_succ, List.getElem_toArray, List.getElem_cons_zero, List.getElem_cons_succ]
          refine wpAnyH_take (i := 5) (v := ?_) rfl (by kernel_rfl) (by kernel_rfl) (by kernel_rfl) (fun _ _ _ h => h) (Or.inl ⟨by rfl, ?_⟩) hHeld ?_
          rotate_left
          · intro w hSw; (try dsimp only at hSw); first | (go_simp; done) | (go_simp; with_reducible rfl)
          try simp only [Act.put, List.setIfInBounds_toArray, List.set_cons_zero, List.set_cons_succ, List.getElem_toArray, List.getElem_cons_zero, List.getElem_cons_succ]
          refine wpAnyH_take (i := 7) (v := ?_) rfl (by kernel_rfl) (by kernel_rfl) (by kernel_rfl) (fun _ _ _ h => h) (Or.inl ⟨by rfl, ?_⟩) hHeld ?_
          rotate_left
          · intro w hSw; (try dsimp only at hSw); first | (go_simp; done) | (go_simp; with_reducible rfl)
          try simp only [Act.put, List.setIfInBounds_toArray, List.set_cons_zero, List.set_cons_succ, List.getElem_toArray, List.getElem_cons_zero, List.getElem_cons_succ]
          refine wpAnyH_take (i := 8) (v := ?_) rfl (by kernel_rfl) (by kernel_rfl) (by kernel_rfl) (fun _ _ _ h => h) (Or.inl ⟨by rfl, ?_⟩) hHeld ?_
          rotate_left
          · intro w hSw; (try dsimp only at hSw); first | (go_simp; done) | (go_simp; with_reducible rfl)
          try simp only [Act.put, List.setIfInBounds_toArray, List.set_cons_zero, List.set_cons_succ, List.getElem_toArray, List.getElem_cons_zero, List.getElem_cons_succ]
          refine wpAnyH_ready (rs := [6]) (by kernel_rfl) (by simp) ?_
          refine AllReadyH.cons rfl (fun K hK => ?_) AllReadyH.nil
          go_simp
          go_wp2_with (go_at_call 17; refine (hold_call (hhn _ hS.drew.2.2.2.2.1) hS.drew).mono ?_; rintro e wx ⟨rfl, hS3⟩)
          refine hK.out _ _ (hS3.two) (fun hHeld => ?_)
          clear hK K
          refine wpAnyH_ready (rs := [9]) (by kernel_rfl) (by simp) ?_
          refine AllReadyH.cons rfl (fun K hK => ?_) AllReadyH.nil
          go_simp
          go_wp2_with (go_at_call 17; refine (hold_call (hha _ hS3.2.2.2.2.1) hS3).mono ?_; rintro e wx ⟨rfl, hS3⟩)
          refine hK.out _ _ (hS3.two) (fun hHeld => ?_)
          clear hK K
          refine wpAnyH_take (i := 10) (v := ?_) rfl (by kernel_rfl) (by kernel_rfl) (by kernel_rfl) (fun _ _ _ h => h) (Or.inl ⟨by rfl, ?_⟩) hHeld ?_
          rotate_left
          · intro w hSw; (try dsimp only at hSw); first | (go_simp; done) | (go_simp; with_reducible rfl)
          try simp only [Act.put, List.setIfInBounds_toArray, List.set_cons_zero, List.set_cons_succ, List.getElem_toArray, List.getElem_cons_zero, List.getElem_cons_succ]
          refine wpAnyH_take (i := 11) (v := undef) rfl (by kernel_rfl) (by kernel_rfl) (by kernel_rfl) (fun _ _ _ h => h) (Or.inr ⟨by rfl, rfl⟩) hHeld ?_
          try simp only [Act.put, List.setIfInBounds_toArray, List.set_cons_zero, List.set_cons_succ, List.getElem_toArray, List.getElem_cons_zero, List.getElem_cons_succ]
          refine wpAnyH_take (i := 12) (v := undef) rfl (by kernel_rfl) (by kernel_rfl) (by kernel_rfl) (fun _ _ _ h => h) (Or.inr ⟨by rfl, rfl⟩) hHeld ?_
          try simp only [Act.put, List.setIfInBounds_toArray, List.set_cons_zero, List.set_cons_succ, List.getElem_toArray, List.getElem_cons_zero, List.getElem_cons_succ]
          refine wpAnyH_take (i := 13) (v := undef) rfl (by kernel_rfl) (by kernel_rfl) (by kernel_rfl) (fun _ _ _ h => h) (Or.inr ⟨by rfl, rfl⟩) hHeld ?_
          try simp only [Act.put, List.setIfInBounds_toArray, List.set_cons_zero, List.set_cons_succ, List.getElem_toArray, List.getElem_cons_zero, List.getElem_cons_succ]
          refine wpAnyH_take (i := 14) (v := ?_) rfl (by kernel_rfl) (by kernel_rfl) (by kernel_rfl) (fun _ _ _ h => h) (Or.inl ⟨by rfl, ?_⟩) hHeld ?_
          rotate_left
          · intro w hSw; (try dsimp only at hSw); first | (go_simp; done) | (go_simp; with_reducible rfl)
          try simp only [Act.put, List.setIfInBounds_toArray, List.set_cons_zero, List.set_cons_succ, List.getElem_toArray, List.getElem_cons_zero, List.getElem_cons_succ]
          refine wpAnyH_take (i := 15) (v := ?_) rfl (by kernel_rfl) (by kernel_rfl) (by kernel_rfl) (fun _ _ _ h => h) (Or.inl ⟨by rfl, ?_⟩) hHeld ?_
          rotate_left
          · intro w hSw; (try dsimp only at hSw); first | (go_simp; done) | (go_simp; with_reducible rfl)
          try simp only [Act.put, List.setIfInBounds_toArray, List.set_cons_zero, List.set_cons_succ, List.getElem_toArray, List.getElem_cons_zero, List.getElem_cons_succ]
          refine wpAnyH_take (i := 16) (v := ?_) rfl (by kernel_rfl) (by kernel_rfl) (by kernel_rfl) (fun _ _ _ h => h) (Or.inl ⟨by rfl, ?_⟩) hHeld ?_
          rotate_left
          · intro w hSw; (try dsimp only at hSw); first | (go_simp; done) | (go_simp; with_reducible rfl)
          try simp only [Act.put, List.setIfInBounds_toArray, List.set_cons_zero, List.set_cons_succ, List.getElem_toArray, List.getElem_cons_zero, List.getElem_cons_succ]
          refine wpAnyH_take (i := 17) (v := ?_) rfl (by kernel_rfl) (by kernel_rfl) (by kernel_rfl) (fun _ _ _ h => h) (Or.inl ⟨by rfl, ?_⟩) hHeld ?_
          rotate_left
          · intro w hSw; (try dsimp only at hSw); first | (go_simp; done) | (go_simp; with_reducible rfl)
          try simp only [Act.put, List.setIfInBounds_toArray, List.set_cons_zero, List.set_cons_succ, List.getElem_toArray, List.getElem_cons_zero, List.getElem_cons_succ]
          refine wpAnyH_done (by kernel_rfl) ?_ _
          have hE := hS3.2.2.2.2.1
          clear hS3 hS hhn hha hhb
          go_wp2_with fail
          go_ret
          exact ⟨rfl, hB11.trans (hE.mono hB11.size)⟩
end Go.Proofs.YtgbemhehbhlgpaaGreatDoor
