/-
  PluralParses: any text is read as a rule, and printed in its one form, as the document says, or refused where it says: the walk of the law.
-/
import Derived.Test.YtgbemhehbhlgpaaGreatDoorPlRf
import Derived.Test.YtgbemhehbhlgpaaGreatDoorPlCm
namespace Go.Proofs.YtgbemhehbhlgpaaGreatDoor
open Go.RowKit Go.PlainAid

set_option maxRecDepth 100000 in
set_option maxHeartbeats 4000000 in
theorem pluralParses_walk (s : ByteArray) (w : World) (_ : s.size ≤ 140737488351232) (hw : PW w) :
    Calls Tryz.prog 6 #[.string s] w fun e w' => e = .returned (.bool true) ∧ Below w.heap.size w w' := by
  have hwk := wakes_pw w hw
  by_cases hs : 4096 < s.size
  · have hsI : (4096 : Int) < s.size := by omega
    go_enter Tryz.func6, Tryz.ntmps6
    go_wp2_with fail
    refine hwk.mono ?_
    rintro e w1 ⟨rfl, hB1⟩
    have hp := parse_long s w1 hs
    clear hwk hs
    go_wp2_with fail
    refine hp.mono ?_
    rintro e w2 ⟨rfl, hB2⟩
    have hE := (hB1.trans (hB2.mono hB1.size)).alloc (Nat.le_trans hB1.size hB2.size) (.cells #[.int .i64 3, .int .i64 0] 53)
    have kS := Blk.new w2 #[.int .i64 3, .int .i64 0] 53
    have s0 := kS.cell 0
    have s1 := kS.cell 1
    simp at s0 s1
    clear hp
    go_wp2_with fail
    go_ret
    exact ⟨rfl, hE⟩
  · have hsI : ¬ (4096 : Int) < s.size := by omega
    go_enter Tryz.func6, Tryz.ntmps6
    go_wp2_with fail
    refine hwk.mono ?_
    rintro e w1 ⟨rfl, hB1⟩
    have hw1 := hw.on hB1
    have hp := parse_short s w1 (by omega) hw1.pg
    have HSZ := Lib.hid hs
    clear hwk hs
    go_wp2_with fail
    refine hp.mono ?_
    rintro e w2 ⟨h2, hB2⟩
    have hB2' := hB1.trans (hB2.mono hB1.size)
    rcases h2 with ⟨q, hbad, rfl⟩ | ⟨v, p, rows, t, rfl, hru, hv⟩
    · have hA2 := (Below.refl w2.heap.size w2).alloc (Nat.le_refl _) (.cells #[.int .i64 250, .int .i64 (q : Int)] 53)
      have hB3 := hB2'.trans (hA2.mono hB2'.size)
      have kS := Blk.new w2 #[.int .i64 250, .int .i64 (q : Int)] 53
      have hrf := rParse_any s (by have := HSZ.out; omega) (w2.alloc (.cells #[.int .i64 250, .int .i64 (q : Int)] 53))
      unfold RParse at hrf
      rw [hbad] at hrf
      clear hp hbad hA2 hB2 hw1
      go_wp2_with fail
      generalize w2.alloc (.cells #[.int .i64 250, .int .i64 (q : Int)] 53) = w3 at *
      refine hrf.mono ?_
      rintro e w4 ⟨rfl, hB4⟩
      have hB4' := hB3.trans (hB4.mono hB3.size)
      have hA4 := (Below.refl w4.heap.size w4).alloc (Nat.le_refl _) (.cells #[.slice none 0 0, .string ⟨#[]⟩, .int .i64 (q : Int)] 51)
      have hB5 := hB4'.trans (hA4.mono hB4'.size)
      have kS5 := (kS.on hB4).on hA4
      have kW := Blk.new w4 #[.slice none 0 0, .string ⟨#[]⟩, .int .i64 (q : Int)] 51
      have hq0 : (0 : Int) ≤ q := by omega
      clear hrf hA4 kS hB4
      go_upto_region 7 with fail
      generalize w4.alloc (.cells #[.slice none 0 0, .string ⟨#[]⟩, .int .i64 (q : Int)] 51) = w5 at *
      have sc := kS5.cell
      have wc := kW.cell
      go_wp2_with fail
      go_ret
      exact ⟨rfl, hB5⟩
    · have hA2 := (Below.refl w2.heap.size w2).alloc (Nat.le_refl _) (.cells #[.int .i64 0, .int .i64 0] 53)
      have hB3 := hB2'.trans (hA2.mono hB2'.size)
      have kS := Blk.new w2 #[.int .i64 0, .int .i64 0] 53
      have hv3 := hv.on hA2
      have hrf := rParse_any s (by have := HSZ.out; omega) (w2.alloc (.cells #[.int .i64 0, .int .i64 0] 53))
      unfold RParse at hrf
      rw [hru] at hrf
      obtain ⟨vb, vf, rfl, hvk⟩ := id hv
      clear hp hru hA2 hB2 hw1 hv hvk
      go_wp2_with fail
      generalize w2.alloc (.cells #[.int .i64 0, .int .i64 0] 53) = w3 at *
      refine hrf.mono ?_
      rintro e w4 ⟨⟨ra, rn, rc, rfl, _⟩, hB4⟩
      have hB4' := hB3.trans (hB4.mono hB3.size)
      have hA4 := (Below.refl w4.heap.size w4).alloc (Nat.le_refl _) (.cells #[.slice ra rn rc, .string t, .int .i64 (-1)] 51)
      have hB5 := hB4'.trans (hA4.mono hB4'.size)
      have kS5 := (kS.on hB4).on hA4
      have kW := Blk.new w4 #[.slice ra rn rc, .string t, .int .i64 (-1)] 51
      have hv5 := (hv3.on hB4).on hA4
      clear hrf hA4 kS hB4 hv3
      go_upto_region 7 with fail
      generalize w4.alloc (.cells #[.slice ra rn rc, .string t, .int .i64 (-1)] 51) = w5 at *
      have sc := kS5.cell
      have wc := kW.cell
      have hprint : ∀ W, Below w5.heap.size w5 W → Calls Tryz.prog 18 #[.pointer (some ⟨vb, 0, none⟩)] W fun e w' => e = .returned (.string t) ∧ Below W.heap.size W w' :=
        fun W hW => (print_any _ t rows W (hv5.on hW)).mono fun e w' ⟨h1, h2⟩ => ⟨h1, by rw [← h2]; exact Below.refl _ _⟩
      have hS := Hold2.mk kS5 kW (Below.refl w5.heap.size w5) (Nat.le_refl _)
      have htt : (t.toList == t.toList) = true := by simp
      clear hv5
      go_upto_region 9 with fail
      clear sc wc kS5 kW
      refine wp_region_held_drew (S := fun w' => (∀ o, w'.cell? ⟨w2.heap.size, o, none⟩ = #[Value.int .i64 0, Value.int .i64 0][o]?) ∧ (∀ o, w'.cell? ⟨w4.heap.size, o, none⟩ = #[Value.slice ra rn rc, Value.string t, Value.int .i64 (-1)][o]?) ∧ Below w5.heap.size w5 w') (by kernel_rfl) (hS.drew.two) (fun hHeld => ?_)
      refine wpAnyH_take (i := 0) (v := ?_) rfl (by kernel_rfl) (by kernel_rfl) (by kernel_rfl) (fun _ _ _ h => h) (Or.inl ⟨by rfl, ?_⟩) hHeld ?_
      rotate_left
      · intro w hSw; (try dsimp only at hSw); first | (go_simp; done) | (go_simp; with_reducible rfl)
      try simp only [Act.put, List.setIfInBounds_toArray, List.set_cons_zero, List.set_cons_succ, List.getElem_toArray, List.getElem_cons_zero, List.getElem_cons_succ]
      refine wpAnyH_take (i := 1) (v := ?_) rfl (by kernel_rfl) (by kernel_rfl) (by kernel_rfl) (fun _ _ _ h => h) (Or.inl ⟨by rfl, ?_⟩) hHeld ?_
      rotate_left
      · intro w hSw; (try dsimp only at hSw); first | (go_simp; done) | (go_simp; with_reducible rfl)
      try simp only [Act.put, List.setIfInBounds_toArray, List.set_cons_zero, List.set_cons_succ, List.getElem_toArray, List.getElem_cons_zero, List.getElem_cons_succ]
      refine wpAnyH_take (i := 2) (v := ?_) rfl (by kernel_rfl) (by kernel_rfl) (by kernel_rfl) (fun _ _ _ h => h) (Or.inl ⟨by rfl, ?_⟩) hHeld ?_
      rotate_left
      · intro w hSw; (try dsimp only at hSw); first | (go_simp; done) | (go_simp; with_reducible rfl)
      try simp only [Act.put, List.setIfInBounds_toArray, List.set_cons_zero, List.set_cons_succ, List.getElem_toArray, List.getElem_cons_zero, List.getElem_cons_succ]
      refine wpAnyH_take (i := 3) (v := ?_) rfl (by kernel_rfl) (by kernel_rfl) (by kernel_rfl) (fun _ _ _ h => h) (Or.inl ⟨by rfl, ?_⟩) hHeld ?_
      rotate_left
      · intro w hSw; (try dsimp only at hSw); first | (go_simp; done) | (go_simp; with_reducible rfl)
      try simp only [Act.put, List.setIfInBounds_toArray, List.set_cons_zero, List.set_cons_succ, List.getElem_toArray, List.getElem_cons_zero, List.getElem_cons_succ]
      refine wpAnyH_take (i := 4) (v := ?_) rfl (by kernel_rfl) (by kernel_rfl) (by kernel_rfl) (fun _ _ _ h => h) (Or.inl ⟨by rfl, ?_⟩) hHeld ?_
      rotate_left
      · intro w hSw; (try dsimp only at hSw); first | (go_simp; done) | (go_simp; with_reducible rfl)
      try simp only [Act.put, List.setIfInBounds_toArray, List.set_cons_zero, List.set_cons_succ, List.getElem_toArray, List.getElem_cons_zero, List.getElem_cons_succ]
      refine wpAnyH_take (i := 6) (v := ?_) rfl (by kernel_rfl) (by kernel_rfl) (by kernel_rfl) (fun _ _ _ h => h) (Or.inl ⟨by rfl, ?_⟩) hHeld ?_
      rotate_left
      · intro w hSw; (try dsimp only at hSw); first | (go_simp; done) | (go_simp; with_reducible rfl)
      try simp only [Act.put, List.setIfInBounds_toArray, List.set_cons_zero, List.set_cons_succ, List.getElem_toArray, List.getElem_cons_zero, List.getElem_cons_succ]
      refine wpAnyH_take (i := 7) (v := ?_) rfl (by kernel_rfl) (by kernel_rfl) (by kernel_rfl) (fun _ _ _ h => h) (Or.inl ⟨by rfl, ?_⟩) hHeld ?_
      rotate_left
      · intro w hSw; (try dsimp only at hSw); first | (go_simp; done) | (go_simp; with_reducible rfl)
      try simp only [Act.put, List.setIfInBounds_toArray, List.set_cons_zero, List.set_cons_succ, List.getElem_toArray, List.getElem_cons_zero, List.getElem_cons_succ]
      refine wpAnyH_ready (rs := [5]) (by kernel_rfl) (by simp) ?_
      refine AllReadyH.cons rfl (fun K hK => ?_) AllReadyH.nil
      go_simp
      go_wp2_with (go_at_call 18; refine (hold_call (hprint _ hS.drew.2.2.2.2.1) hS.drew).mono ?_; rintro e wx ⟨rfl, hS3⟩)
      refine hK.out _ _ (hS3.two) (fun hHeld => ?_)
      clear hK K
      refine wpAnyH_take (i := 8) (v := ?_) rfl (by kernel_rfl) (by kernel_rfl) (by kernel_rfl) (fun _ _ _ h => h) (Or.inl ⟨by rfl, ?_⟩) hHeld ?_
      rotate_left
      · intro w hSw; (try dsimp only at hSw); first | (go_simp; done) | (go_simp; with_reducible rfl)
      try simp only [Act.put, List.setIfInBounds_toArray, List.set_cons_zero, List.set_cons_succ, List.getElem_toArray, List.getElem_cons_zero, List.getElem_cons_succ]
      refine wpAnyH_take (i := 9) (v := ?_) rfl (by kernel_rfl) (by kernel_rfl) (by kernel_rfl) (fun _ _ _ h => h) (Or.inl ⟨by rfl, ?_⟩) hHeld ?_
      rotate_left
      · intro w hSw; (try dsimp only at hSw); first | (go_simp; done) | (go_simp; with_reducible rfl)
      try simp only [Act.put, List.setIfInBounds_toArray, List.set_cons_zero, List.set_cons_succ, List.getElem_toArray, List.getElem_cons_zero, List.getElem_cons_succ]
      refine wpAnyH_take (i := 10) (v := ?_) rfl (by kernel_rfl) (by kernel_rfl) (by kernel_rfl) (fun _ _ _ h => h) (Or.inl ⟨by rfl, ?_⟩) hHeld ?_
      rotate_left
      · intro w hSw; (try dsimp only at hSw); first | (go_simp; done) | (go_simp; with_reducible rfl)
      try simp only [Act.put, List.setIfInBounds_toArray, List.set_cons_zero, List.set_cons_succ, List.getElem_toArray, List.getElem_cons_zero, List.getElem_cons_succ]
      refine wpAnyH_done (by kernel_rfl) ?_ _
      have hE := hS3.2.2.2.2.1
      clear hS3 hS hprint
      go_wp2_with fail
      go_ret
      exact ⟨rfl, hB5.trans (hE.mono hB5.size)⟩
end Go.Proofs.YtgbemhehbhlgpaaGreatDoor
