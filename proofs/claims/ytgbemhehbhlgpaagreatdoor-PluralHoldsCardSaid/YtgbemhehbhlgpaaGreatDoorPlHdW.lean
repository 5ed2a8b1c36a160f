/-
  PluralHolds: a rule holds for just those decimals for which the document says so: the walk of the law.
-/
import Derived.Test.YtgbemhehbhlgpaaGreatDoorPlRj
import Derived.Test.YtgbemhehbhlgpaaGreatDoorPlCm
namespace Go.Proofs.YtgbemhehbhlgpaaGreatDoor
open Go.RowKit Go.PlainAid

set_option maxRecDepth 100000 in
set_option maxHeartbeats 4000000 in
theorem pluralHolds_walk (s : ByteArray) (neg : Bool) (ds : ByteArray) (sc : Int) (w : World) (_ : s.size ≤ 140737488351232) (hw : PW w) :
    Calls Tryz.prog 5 #[.string s, .agg #[.bool neg, .string ds, .int .i64 sc]] w fun e w' => e = .returned (.bool true) ∧ Below w.heap.size w w' := by
  have hA0 := (Below.refl w.heap.size w).alloc (Nat.le_refl _) (.cells #[.bool neg, .string ds, .int .i64 sc] 23)
  have kD := Blk.new w #[.bool neg, .string ds, .int .i64 sc] 23
  have hwk := wakes_pw _ (hw.on hA0)
  by_cases hs : 4096 < s.size
  · have hsI : (4096 : Int) < s.size := by omega
    clear hs kD
    go_enter Tryz.func5, Tryz.ntmps5
    go_wp2_with fail
    refine hwk.mono ?_
    rintro e w1 ⟨rfl, hB1'⟩
    have hB1 := hA0.trans (hB1'.mono hA0.size)
    go_wp2_with fail
    go_ret
    exact ⟨rfl, hB1⟩
  · have hsI : ¬ (4096 : Int) < s.size := by omega
    have HSZ := Lib.hid hs
    clear hs
    go_enter Tryz.func5, Tryz.ntmps5
    go_wp2_with fail
    refine hwk.mono ?_
    rintro e w1 ⟨rfl, hB1'⟩
    have hB1 := hA0.trans (hB1'.mono hA0.size)
    have kD1 := kD.on hB1'
    have hrf := rParse_any s (by have := HSZ.out; omega) w1
    unfold RParse at hrf
    clear hwk kD hA0 hB1'
    go_wp2_with fail
    refine hrf.mono ?_
    rintro e w2 ⟨h2, hB2⟩
    have hB2' := hB1.trans (hB2.mono hB1.size)
    have kD2 := kD1.on hB2
    cases hru : ruleP s with
    | bad q =>
      rw [hru] at h2
      have h2 : e = .returned (.agg #[.slice none 0 0, .string ⟨#[]⟩, .int .i64 (q : Int)]) := h2
      subst h2
      have hA2 := (Below.refl w2.heap.size w2).alloc (Nat.le_refl _) (.cells #[.slice none 0 0, .string ⟨#[]⟩, .int .i64 (q : Int)] 51)
      have hB3 := hB2'.trans (hA2.mono hB2'.size)
      have kW := Blk.new w2 #[.slice none 0 0, .string ⟨#[]⟩, .int .i64 (q : Int)] 51
      have hp := parse_short s (w2.alloc (.cells #[.slice none 0 0, .string ⟨#[]⟩, .int .i64 (q : Int)] 51)) (by have := HSZ.out; omega) (hw.on hB3).pg
      have HRU := Lib.hid hru
      clear hrf hru hA2 hB2 kD1 kD2
      go_wp2_with fail
      generalize w2.alloc (.cells #[.slice none 0 0, .string ⟨#[]⟩, .int .i64 (q : Int)] 51) = w3 at *
      refine hp.mono ?_
      rintro e w4 ⟨h4, hB4⟩
      have hB4' := hB3.trans (hB4.mono hB3.size)
      rcases h4 with ⟨q2, hq2, rfl⟩ | ⟨v, p, rows, t, rfl, hok, _⟩
      · have hA4 := (Below.refl w4.heap.size w4).alloc (Nat.le_refl _) (.cells #[.int .i64 250, .int .i64 (q2 : Int)] 53)
        have hB5 := hB4'.trans (hA4.mono hB4'.size)
        have kW5 := (kW.on hB4).on hA4
        have kS := Blk.new w4 #[.int .i64 250, .int .i64 (q2 : Int)] 53
        have hq0 : (0 : Int) ≤ q := by omega
        clear hp hA4 kW hB4 hq2
        go_upto_region 7 with fail
        generalize w4.alloc (.cells #[.int .i64 250, .int .i64 (q2 : Int)] 53) = w5 at *
        have sc := kS.cell
        have wc := kW5.cell
        go_wp2_with fail
        go_ret
        exact ⟨rfl, hB5⟩
      · rw [HRU.out] at hok
        cases hok
    | ok p rows t =>
      rw [hru] at h2
      obtain ⟨ra, rn, rc, h2, hany⟩ := (show ∃ a n c, e = .returned (.agg #[.slice a n c, .string t, .int .i64 (-1)]) ∧ AnyA w2 (.slice a n c) rows from h2)
      subst h2
      have hA2 := (Below.refl w2.heap.size w2).alloc (Nat.le_refl _) (.cells #[.slice ra rn rc, .string t, .int .i64 (-1)] 51)
      have hB3 := hB2'.trans (hA2.mono hB2'.size)
      have kW := Blk.new w2 #[.slice ra rn rc, .string t, .int .i64 (-1)] 51
      have kD3 := kD2.on hA2
      have hany3 := hany.on hA2
      have hp := parse_short s (w2.alloc (.cells #[.slice ra rn rc, .string t, .int .i64 (-1)] 51)) (by have := HSZ.out; omega) (hw.on hB3).pg
      have hokA := ruleP_ok (by have := HSZ.out; omega) hru
      have HRU := Lib.hid hru; have HOKA := Lib.hid hokA
      clear hrf hru hA2 hB2 kD1 kD2 hany hokA
      go_wp2_with fail
      generalize w2.alloc (.cells #[.slice ra rn rc, .string t, .int .i64 (-1)] 51) = w3 at *
      refine hp.mono ?_
      rintro e w4 ⟨h4, hB4⟩
      have hB4' := hB3.trans (hB4.mono hB3.size)
      rcases h4 with ⟨q2, hq2, _⟩ | ⟨v, p2, rows2, t2, rfl, hok, hv⟩
      · rw [HRU.out] at hq2
        cases hq2
      · have hsame := HRU.out.symm.trans hok
        injection hsame with _ e2 e3
        subst e2 e3
        have hA4 := (Below.refl w4.heap.size w4).alloc (Nat.le_refl _) (.cells #[.int .i64 0, .int .i64 0] 53)
        have hB5 := hB4'.trans (hA4.mono hB4'.size)
        have kW5 := (kW.on hB4).on hA4
        have kD5 := (kD3.on hB4).on hA4
        have hany5 := (hany3.on hB4).on hA4
        have hv5 := hv.on hA4
        have hw5 := hw.on hB5
        have kS := Blk.new w4 #[.int .i64 0, .int .i64 0] 53
        obtain ⟨vb, vf, rfl, hvk⟩ := id hv
        clear hp hok hv hvk hA4 kW kD3 hany3 hB4
        go_upto_region 7 with fail
        generalize w4.alloc (.cells #[.int .i64 0, .int .i64 0] 53) = w5 at *
        have sc' := kS.cell
        have wc := kW5.cell
        go_upto_region 9 with fail
        clear sc' wc kS
        have hS := Hold2.mk kW5 kD5 (Below.refl w5.heap.size w5) (Nat.le_refl _)
        cases hr : rightB neg ds sc with
        | true =>
          have h0 : 0 ≤ sc := (of_decide_eq_true hr).2.2.1
          obtain ⟨k, rfl⟩ : ∃ k : Nat, sc = k := ⟨sc.toNat, by omega⟩
          have hh1 : ∀ W, Below w5.heap.size w5 W → Calls Tryz.prog 17 #[.pointer (some ⟨vb, 0, none⟩), .agg #[.bool neg, .string ds, .int .i64 (k : Int)]] W fun e w' => e = .returned (.bool (rowsH ds k rows)) ∧ Below W.heap.size W w' :=
            fun W hW => holds_yes hr _ t rows W (hv5.on hW) (hw5.on hW).pg
          have hh2 : ∀ W, Below w5.heap.size w5 W → Calls Tryz.prog 27 #[.agg #[.slice ra rn rc, .string t, .int .i64 (-1)], .agg #[.bool neg, .string ds, .int .i64 (k : Int)]] W fun e w' => e = .returned (.bool (rowsH ds k rows)) ∧ Below W.heap.size W w' :=
            fun W hW => rRuleH_any hr ra rn rc t (-1) rows W (hany5.on hW) HOKA.out
          generalize rowsH ds k rows = H at *
          have hHH : (H == H) = true := by simp
          clear kW5 kD5 hany5 hv5 hw5 h0
          refine wp_region_held_drew (S := fun w' => (∀ o, w'.cell? ⟨w2.heap.size, o, none⟩ = #[Value.slice ra rn rc, Value.string t, Value.int .i64 (-1)][o]?) ∧ (∀ o, w'.cell? ⟨w.heap.size, o, none⟩ = #[Value.bool neg, Value.string ds, Value.int .i64 (k : Int)][o]?) ∧ Below w5.heap.size w5 w') (by kernel_rfl) (hS.drew.two) (fun hHeld => ?_)
          refine wpAnyH_take (i := 0) (v := ?_) rfl (by kernel_rfl) (by kernel_rfl) (by kernel_rfl) (fun _ _ _ h => h) (Or.inl ⟨by rfl, ?_⟩) hHeld ?_
          rotate_left
          · intro w hSw; (try dsimp only at hSw); first | (go_simp; done) | (go_simp; with_reducible rfl)
          try simp only [Act.put, List.setIfInBounds_toArray, List.set_cons_zero, List.set_cons_succ, List.getElem_toArray, List.getElem_cons_zero]
          refine wpAnyH_take (i := 1) (v := ?_) rfl (by kernel_rfl) (by kernel_rfl) (by kernel_rfl) (fun _ _ _ h => h) (Or.inl ⟨by rfl, ?_⟩) hHeld ?_
          rotate_left
          · intro w hSw; (try dsimp only at hSw); first | (go_simp; done) | (go_simp; with_reducible rfl)
          try simp only [Act.put, List.setIfInBounds_toArray, List.set_cons_zero, List.set_cons_succ, List.getElem_toArray, List.getElem_cons_zero, List.getElem_cons_succ]
          refine wpAnyH_take (i := 3) (v := ?_) rfl (by kernel_rfl) (by kernel_rfl) (by kernel_rfl) (fun _ _ _ h => h) (Or.inl ⟨by rfl, ?_⟩) hHeld ?_
          rotate_left
          · intro w hSw; (try dsimp only at hSw); first | (go_simp; done) | (go_simp; with_reducible rfl)
          try simp only [Act.put, List.setIfInBounds_toArray, List.set_cons_zero, List.set_cons_succ, List.getElem_toArray, List.getElem_cons_zero, List.getElem_cons_succ]
          refine wpAnyH_ready (rs := [2]) (by kernel_rfl) (by simp) ?_
          refine AllReadyH.cons rfl (fun K hK => ?_) AllReadyH.nil
          go_simp
          go_wp2_with (go_at_call 17; refine (hold_call (hh1 _ hS.drew.2.2.2.2.1) hS.drew).mono ?_; rintro e wx ⟨rfl, hS3⟩)
          refine hK.out _ _ (hS3.two) (fun hHeld => ?_)
          clear hK K
          refine wpAnyH_ready (rs := [4]) (by kernel_rfl) (by simp) ?_
          refine AllReadyH.cons rfl (fun K hK => ?_) AllReadyH.nil
          go_simp
          go_wp2_with (go_at_call 26; refine (hold_call (rRight_is hr _) hS3).mono ?_; rintro e wx ⟨rfl, hS3⟩)
          refine hK.out _ _ (hS3.two) (fun hHeld => ?_)
          clear hK K
          refine wpAnyH_take (i := 5) (v := ?_) rfl (by kernel_rfl) (by kernel_rfl) (by kernel_rfl) (fun _ _ _ h => h) (Or.inl ⟨by rfl, ?_⟩) hHeld ?_
          rotate_left
          · intro w hSw; (try dsimp only at hSw); first | (go_simp; done) | (go_simp; with_reducible rfl)
          try simp only [Act.put, List.setIfInBounds_toArray, List.set_cons_zero, List.set_cons_succ, List.getElem_toArray, List.getElem_cons_zero, List.getElem_cons_succ]
          refine wpAnyH_take (i := 6) (v := ?_) rfl (by kernel_rfl) (by kernel_rfl) (by kernel_rfl) (fun _ _ _ h => h) (Or.inl ⟨by rfl, ?_⟩) hHeld ?_
          rotate_left
          · intro w hSw; (try dsimp only at hSw); first | (go_simp; done) | (go_simp; with_reducible rfl)
          try simp only [Act.put, List.setIfInBounds_toArray, List.set_cons_zero, List.set_cons_succ, List.getElem_toArray, List.getElem_cons_zero, List.getElem_cons_succ]
          refine wpAnyH_take (i := 7) (v := ?_) rfl (by kernel_rfl) (by kernel_rfl) (by kernel_rfl) (fun _ _ _ h => h) (Or.inl ⟨by rfl, ?_⟩) hHeld ?_
          rotate_left
          · intro w hSw; (try dsimp only at hSw); first | (go_simp; done) | (go_simp; with_reducible rfl)
          try simp only [Act.put, List.setIfInBounds_toArray, List.set_cons_zero, List.set_cons_succ, List.getElem_toArray, List.getElem_cons_zero, List.getElem_cons_succ]
          refine wpAnyH_ready (rs := [8]) (by kernel_rfl) (by simp) ?_
          refine AllReadyH.cons rfl (fun K hK => ?_) AllReadyH.nil
          go_simp
          go_wp2_with (go_at_call 27; refine (hold_call (hh2 _ hS3.2.2.2.2.1) hS3).mono ?_; rintro e wx ⟨rfl, hS3⟩)
          refine hK.out _ _ (hS3.two) (fun hHeld => ?_)
          clear hK K
          refine wpAnyH_take (i := 9) (v := ?_) rfl (by kernel_rfl) (by kernel_rfl) (by kernel_rfl) (fun _ _ _ h => h) (Or.inl ⟨by rfl, ?_⟩) hHeld ?_
          rotate_left
          · intro w hSw; (try dsimp only at hSw); first | (go_simp; done) | (go_simp; with_reducible rfl)
          try simp only [Act.put, List.setIfInBounds_toArray, List.set_cons_zero, List.set_cons_succ, List.getElem_toArray, List.getElem_cons_zero, List.getElem_cons_succ]
          refine wpAnyH_take (i := 10) (v := ?_) rfl (by kernel_rfl) (by kernel_rfl) (by kernel_rfl) (fun _ _ _ h => h) (Or.inl ⟨by rfl, ?_⟩) hHeld ?_
          rotate_left
          · intro w hSw; (try dsimp only at hSw); first | (go_simp; done) | (go_simp; with_reducible rfl)
          try simp only [Act.put, List.setIfInBounds_toArray, List.set_cons_zero, List.set_cons_succ, List.getElem_toArray, List.getElem_cons_zero, List.getElem_cons_succ]
          refine wpAnyH_take (i := 11) (v := ?_) rfl (by kernel_rfl) (by kernel_rfl) (by kernel_rfl) (fun _ _ _ h => h) (Or.inl ⟨by rfl, ?_⟩) hHeld ?_
          rotate_left
          · intro w hSw; (try dsimp only at hSw); first | (go_simp; done) | (go_simp; with_reducible rfl)
          try simp only [Act.put, List.setIfInBounds_toArray, List.set_cons_zero, List.set_cons_succ, List.getElem_toArray, List.getElem_cons_zero, List.getElem_cons_succ]
          refine wpAnyH_done (by kernel_rfl) ?_ _
          have hE := hS3.2.2.2.2.1
          clear hS3 hS hh1 hh2
          go_wp2_with fail
          go_ret
          exact ⟨rfl, hB5.trans (hE.mono hB5.size)⟩
        | false =>
          have hh1 : ∀ W, Below w5.heap.size w5 W → Calls Tryz.prog 17 #[.pointer (some ⟨vb, 0, none⟩), .agg #[.bool neg, .string ds, .int .i64 sc]] W fun e w' => e = .returned (.bool false) ∧ Below W.heap.size W w' :=
            fun W hW => holds_no hr _ t rows W (hv5.on hW)
          clear kW5 kD5 hany5 hv5 hw5
          refine wp_region_held_drew (S := fun w' => (∀ o, w'.cell? ⟨w2.heap.size, o, none⟩ = #[Value.slice ra rn rc, Value.string t, Value.int .i64 (-1)][o]?) ∧ (∀ o, w'.cell? ⟨w.heap.size, o, none⟩ = #[Value.bool neg, Value.string ds, Value.int .i64 sc][o]?) ∧ Below w5.heap.size w5 w') (by kernel_rfl) (hS.drew.two) (fun hHeld => ?_)
          refine wpAnyH_take (i := 0) (v := ?_) rfl (by kernel_rfl) (by kernel_rfl) (by kernel_rfl) (fun _ _ _ h => h) (Or.inl ⟨by rfl, ?_⟩) hHeld ?_
          rotate_left
          · intro w hSw; (try dsimp only at hSw); first | (go_simp; done) | (go_simp; with_reducible rfl)
          try simp only [Act.put, List.setIfInBounds_toArray, List.set_cons_zero, List.set_cons_succ, List.getElem_toArray, List.getElem_cons_zero]
          refine wpAnyH_take (i := 1) (v := ?_) rfl (by kernel_rfl) (by kernel_rfl) (by kernel_rfl) (fun _ _ _ h => h) (Or.inl ⟨by rfl, ?_⟩) hHeld ?_
          rotate_left
          · intro w hSw; (try dsimp only at hSw); first | (go_simp; done) | (go_simp; with_reducible rfl)
          try simp only [Act.put, List.setIfInBounds_toArray, List.set_cons_zero, List.set_cons_succ, List.getElem_toArray, List.getElem_cons_zero, List.getElem_cons_succ]
          refine wpAnyH_take (i := 3) (v := ?_) rfl (by kernel_rfl) (by kernel_rfl) (by kernel_rfl) (fun _ _ _ h => h) (Or.inl ⟨by rfl, ?_⟩) hHeld ?_
          rotate_left
          · intro w hSw; (try dsimp only at hSw); first | (go_simp; done) | (go_simp; with_reducible rfl)
          try simp only [Act.put, List.setIfInBounds_toArray, List.set_cons_zero, List.set_cons_succ, List.getElem_toArray, List.getElem_cons_zero, List.getElem_cons_succ]
          refine wpAnyH_ready (rs := [2]) (by kernel_rfl) (by simp) ?_
          refine AllReadyH.cons rfl (fun K hK => ?_) AllReadyH.nil
          go_simp
          go_wp2_with (go_at_call 17; refine (hold_call (hh1 _ hS.drew.2.2.2.2.1) hS.drew).mono ?_; rintro e wx ⟨rfl, hS3⟩)
          refine hK.out _ _ (hS3.two) (fun hHeld => ?_)
          clear hK K
          refine wpAnyH_ready (rs := [4]) (by kernel_rfl) (by simp) ?_
          refine AllReadyH.cons rfl (fun K hK => ?_) AllReadyH.nil
          go_simp
          go_wp2_with (go_at_call 26; refine (hold_call (rRight_is hr _) hS3).mono ?_; rintro e wx ⟨rfl, hS3⟩)
          refine hK.out _ _ (hS3.two) (fun hHeld => ?_)
          clear hK K
          refine wpAnyH_take (i := 5) (v := ?_) rfl (by kernel_rfl) (by kernel_rfl) (by kernel_rfl) (fun _ _ _ h => h) (Or.inl ⟨by rfl, ?_⟩) hHeld ?_
          rotate_left
          · intro w hSw; (try dsimp only at hSw); first | (go_simp; done) | (go_simp; with_reducible rfl)
          try simp only [Act.put, List.setIfInBounds_toArray, List.set_cons_zero, List.set_cons_succ, List.getElem_toArray, List.getElem_cons_zero, List.getElem_cons_succ]
          refine wpAnyH_take (i := 6) (v := undef) rfl (by kernel_rfl) (by kernel_rfl) (by kernel_rfl) (fun _ _ _ h => h) (Or.inr ⟨by rfl, rfl⟩) hHeld ?_
          try simp only [Act.put, List.setIfInBounds_toArray, List.set_cons_zero, List.set_cons_succ, List.getElem_toArray, List.getElem_cons_zero, List.getElem_cons_succ]
          refine wpAnyH_take (i := 7) (v := undef) rfl (by kernel_rfl) (by kernel_rfl) (by kernel_rfl) (fun _ _ _ h => h) (Or.inr ⟨by rfl, rfl⟩) hHeld ?_
          try simp only [Act.put, List.setIfInBounds_toArray, List.set_cons_zero, List.set_cons_succ, List.getElem_toArray, List.getElem_cons_zero, List.getElem_cons_succ]
          refine wpAnyH_take (i := 8) (v := undef) rfl (by kernel_rfl) (by kernel_rfl) (by kernel_rfl) (fun _ _ _ h => h) (Or.inr ⟨by rfl, rfl⟩) hHeld ?_
          try simp only [Act.put, List.setIfInBounds_toArray, List.set_cons_zero, List.set_cons_succ, List.getElem_toArray, List.getElem_cons_zero, List.getElem_cons_succ]
          refine wpAnyH_take (i := 9) (v := ?_) rfl (by kernel_rfl) (by kernel_rfl) (by kernel_rfl) (fun _ _ _ h => h) (Or.inl ⟨by rfl, ?_⟩) hHeld ?_
          rotate_left
          · intro w hSw; (try dsimp only at hSw); first | (go_simp; done) | (go_simp; with_reducible rfl)
          try simp only [Act.put, List.setIfInBounds_toArray, List.set_cons_zero, List.set_cons_succ, List.getElem_toArray, List.getElem_cons_zero, List.getElem_cons_succ]
          refine wpAnyH_take (i := 10) (v := ?_) rfl (by kernel_rfl) (by kernel_rfl) (by kernel_rfl) (fun _ _ _ h => h) (Or.inl ⟨by rfl, ?_⟩) hHeld ?_
          rotate_left
          · intro w hSw; (try dsimp only at hSw); first | (go_simp; done) | (go_simp; with_reducible rfl)
          try simp only [Act.put, List.setIfInBounds_toArray, List.set_cons_zero, List.set_cons_succ, List.getElem_toArray, List.getElem_cons_zero, List.getElem_cons_succ]
          refine wpAnyH_take (i := 11) (v := ?_) rfl (by kernel_rfl) (by kernel_rfl) (by kernel_rfl) (fun _ _ _ h => h) (Or.inl ⟨by rfl, ?_⟩) hHeld ?_
          rotate_left
          · intro w hSw; (try dsimp only at hSw); first | (go_simp; done) | (go_simp; with_reducible rfl)
          try simp only [Act.put, List.setIfInBounds_toArray, List.set_cons_zero, List.set_cons_succ, List.getElem_toArray, List.getElem_cons_zero, List.getElem_cons_succ]
          refine wpAnyH_done (by kernel_rfl) ?_ _
          have hE := hS3.2.2.2.2.1
          clear hS3 hS hh1
          go_wp2_with fail
          go_ret
          exact ⟨rfl, hB5.trans (hE.mono hB5.size)⟩
end Go.Proofs.YtgbemhehbhlgpaaGreatDoor
