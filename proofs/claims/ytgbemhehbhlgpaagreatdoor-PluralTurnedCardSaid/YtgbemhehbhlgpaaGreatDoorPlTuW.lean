/-
  PluralTurned: of = and != with the same operand and ranges just one holds: the walk of the law.
-/
import Derived.Test.YtgbemhehbhlgpaaGreatDoorPlCm
import Derived.Test.YtgbemhehbhlgpaaGreatDoorPlTu
namespace Go.Proofs.YtgbemhehbhlgpaaGreatDoor
open Go.RowKit Go.PlainAid

theorem hdE : hdB ⟨#[61]⟩ = ⟨#[110, 32, 61, 32]⟩ := by kernel_rfl
theorem hdN : hdB ⟨#[33, 61]⟩ = ⟨#[110, 32, 33, 61, 32]⟩ := by kernel_rfl
theorem head_size4 (s : ByteArray) : ((⟨#[110, 32, 61, 32]⟩ : ByteArray) ++ s).size = 4 + s.size := ByteArray.size_append
theorem head_size5 (s : ByteArray) : ((⟨#[110, 32, 33, 61, 32]⟩ : ByteArray) ++ s).size = 5 + s.size := ByteArray.size_append

set_option maxRecDepth 100000 in
set_option maxHeartbeats 4000000 in
theorem pluralTurned_walk (s : ByteArray) (neg : Bool) (ds : ByteArray) (sc : Int) (w : World) (_ : s.size ≤ 140737488351232) (hw : PW w) :
    Calls Tryz.prog 9 #[.string s, .agg #[.bool neg, .string ds, .int .i64 sc]] w fun e w' => e = .returned (.bool true) ∧ Below w.heap.size w w' := by
  have hA0 := (Below.refl w.heap.size w).alloc (Nat.le_refl _) (.cells #[.bool neg, .string ds, .int .i64 sc] 23)
  have kD := Blk.new w #[.bool neg, .string ds, .int .i64 sc] 23
  have hwk := wakes_pw _ (hw.on hA0)
  by_cases hs : 1000 < s.size
  · have hsI : (1000 : Int) < s.size := by omega
    clear hs kD
    go_enter Tryz.func9, Tryz.ntmps9
    go_wp2_with fail
    refine hwk.mono ?_
    rintro e w1 ⟨rfl, hB1'⟩
    have hB1 := hA0.trans (hB1'.mono hA0.size)
    go_wp2_with fail
    go_ret
    exact ⟨rfl, hB1⟩
  · have hsI : ¬ (1000 : Int) < s.size := by omega
    have hc4 : ¬ 9223372036854775807 < 4 + s.size := by omega
    have hc5 : ¬ 9223372036854775807 < 5 + s.size := by omega
    go_enter Tryz.func9, Tryz.ntmps9
    go_wp2_with fail
    refine hwk.mono ?_
    rintro e w1 ⟨rfl, hB1'⟩
    have hB1 := hA0.trans (hB1'.mono hA0.size)
    have kD1 := kD.on hB1'
    have hw1 := hw.on hB1
    have hp := parse_short (hdB ⟨#[61]⟩ ++ s) w1 (by rw [hdE, head_size4]; omega) hw1.pg
    rw [hdE] at hp
    clear hwk kD hA0 hB1' hs
    go_wp2_with fail
    refine hp.mono ?_
    rintro e w2 ⟨h2, hB2⟩
    have hB2' := hB1.trans (hB2.mono hB1.size)
    rcases h2 with ⟨q, hbad, rfl⟩ | ⟨va, pa, rowsa, ta, rfl, hra, hva⟩
    · have hA2 := (Below.refl w2.heap.size w2).alloc (Nat.le_refl _) (.cells #[.int .i64 250, .int .i64 (q : Int)] 53)
      have hB3 := hB2'.trans (hA2.mono hB2'.size)
      have kS := Blk.new w2 #[.int .i64 250, .int .i64 (q : Int)] 53
      have hw3 := hw1.on (hB2.trans (hA2.mono hB2.size))
      have hp2 := parse_short (hdB ⟨#[33, 61]⟩ ++ s) _ (by rw [hdN, head_size5]; omega) hw3.pg
      have hbad2 : ∃ x, ruleP (⟨#[110, 32, 33, 61, 32]⟩ ++ s) = .bad x := by
        rw [← hdN]
        exact turned_bad (.inl rfl) (.inr rfl) ⟨q, by rw [hdE]; exact hbad⟩
      have HBAD := Lib.hid hbad2
      rw [hdN] at hp2
      clear hp hbad hbad2 hA2 kD1 hw1 hw3
      go_wp2_with fail
      generalize w2.alloc (.cells #[.int .i64 250, .int .i64 (q : Int)] 53) = w3 at *
      refine hp2.mono ?_
      rintro e w4 ⟨h4, hB4⟩
      have hB5 := hB3.trans (hB4.mono hB3.size)
      have kS4 := kS.on hB4
      rcases h4 with ⟨q2, _, rfl⟩ | ⟨vb, pb, rowsb, tb, rfl, hrb, _⟩
      · have hA4 := (Below.refl w4.heap.size w4).alloc (Nat.le_refl _) (.cells #[.int .i64 250, .int .i64 (q2 : Int)] 53)
        have hB6 := hB5.trans (hA4.mono hB5.size)
        have kS5 := kS4.on hA4
        have s0 := kS5.cell 0
        have kT := Blk.new w4 #[.int .i64 250, .int .i64 (q2 : Int)] 53
        have t0 := kT.cell 0
        simp at s0 t0
        clear hp2 hA4 kS4
        go_wp2_with fail
        go_ret
        exact ⟨rfl, hB6⟩
      · obtain ⟨x, hx⟩ := HBAD.out
        rw [hx] at hrb
        cases hrb
    · have hA2 := (Below.refl w2.heap.size w2).alloc (Nat.le_refl _) (.cells #[.int .i64 0, .int .i64 0] 53)
      have hB3 := hB2'.trans (hA2.mono hB2'.size)
      have kS := Blk.new w2 #[.int .i64 0, .int .i64 0] 53
      have kD3 := (kD1.on hB2).on hA2
      have hva3 := hva.on hA2
      have hw3 := hw1.on (hB2.trans (hA2.mono hB2.size))
      have hp2 := parse_short (hdB ⟨#[33, 61]⟩ ++ s) _ (by rw [hdN, head_size5]; omega) hw3.pg
      have hbad2 : ¬ ∃ x, ruleP (⟨#[110, 32, 33, 61, 32]⟩ ++ s) = .bad x := fun h => by
        rw [← hdN] at h
        have h := turned_bad (q := ⟨#[33, 61]⟩) (q2 := ⟨#[61]⟩) (.inr rfl) (.inl rfl) h
        rw [hdE, hra] at h
        obtain ⟨_, h⟩ := h
        cases h
      have HBAD := Lib.hid hbad2
      have HRA := Lib.hid hra
      rw [hdN] at hp2
      obtain ⟨xa, xf, rfl, hvk⟩ := id hva
      clear hp hra hbad2 hA2 kD1 hw1 hva hvk
      go_wp2_with fail
      generalize w2.alloc (.cells #[.int .i64 0, .int .i64 0] 53) = w3 at *
      refine hp2.mono ?_
      rintro e w4 ⟨h4, hB4⟩
      have hB5 := hB3.trans (hB4.mono hB3.size)
      have kS4 := kS.on hB4
      have hva4 := hva3.on hB4
      have kD4 := kD3.on hB4
      have hw4 := hw3.on hB4
      rcases h4 with ⟨q2, hq2, _⟩ | ⟨vb, pb, rowsb, tb, rfl, hrb, hvb⟩
      · exact absurd ⟨_, hq2⟩ HBAD.out
      · have hA4 := (Below.refl w4.heap.size w4).alloc (Nat.le_refl _) (.cells #[.int .i64 0, .int .i64 0] 53)
        have hB6 := hB5.trans (hA4.mono hB5.size)
        have kS5 := kS4.on hA4
        have s0 := kS5.cell 0
        have kT := Blk.new w4 #[.int .i64 0, .int .i64 0] 53
        have t0 := kT.cell 0
        simp at s0 t0
        have hva := hva4.on hA4
        have hvb5 := hvb.on hA4
        have kD5 := kD4.on hA4
        have hw5 := hw4.on hA4
        have hrows := turned_rows (by rw [hdE]; exact HRA.out) (by rw [hdN]; exact hrb)
        have HROWS := Lib.hid hrows
        obtain ⟨xb, xg, rfl, hvk⟩ := id hvb
        have hprint := print_any _ ta rowsa _ hva
        have htz : ta.size ≤ 20000 := by
          have h := ruleP_size HRA.out
          rw [head_size4] at h
          omega
        have hH : ∀ W, Below (w4.alloc (.cells #[.int .i64 0, .int .i64 0] 53)).heap.size (w4.alloc (.cells #[.int .i64 0, .int .i64 0] 53)) W →
            Calls Tryz.prog 17 #[.pointer (some ⟨xa, 0, none⟩), .agg #[.bool neg, .string ds, .int .i64 sc]] W (fun e w' => e = .returned (.bool (metB neg ds sc rowsa)) ∧ Below W.heap.size W w') ∧
            Calls Tryz.prog 17 #[.pointer (some ⟨xb, 0, none⟩), .agg #[.bool neg, .string ds, .int .i64 sc]] W (fun e w' => e = .returned (.bool (metB neg ds sc rowsb)) ∧ Below W.heap.size W w') :=
          fun W hW => ⟨holds_any neg ds sc _ ta rowsa W (hva.on hW) (hw5.on hW).pg, holds_any neg ds sc _ tb rowsb W (hvb5.on hW) (hw5.on hW).pg⟩
        have HHO := Lib.hid hH
        clear hp2 hA4 kS4 kS5 kT hrb hrows hvk hva3 hva4 hvb hvb5 kD3 kD4 hw3 hw4 hw5 hH
        go_wp2_with fail
        generalize w4.alloc (.cells #[.int .i64 0, .int .i64 0] 53) = w7 at *
        clear hva
        go_loopg [9] (ta.size + 1) (fun g s9 wr => ∃ i : Nat, s9 = .int .i64 (i : Int) ∧ g + i = ta.size + 1 ∧ w7 = wr ∧ ∀ k, (Has ta k ⟨#[97, 110]⟩ ∨ Has ta k ⟨#[111, 114]⟩) → i ≤ k)
        case atStart => exact ⟨0, rfl, by omega, rfl, fun k _ => Nat.zero_le k⟩
        case round =>
          obtain ⟨i, rfl, hg, rfl, hk⟩ := hrel
          have HK := Lib.hid hk
          have HG := Lib.hid hg
          have hi0 : (0 : Int) ≤ i := by omega
          have hw2 : IntKind.i64.wrap ((i : Int) + 2) = (i : Int) + 2 := IntWalk.i64_in _ (by omega)
          have hw1 : IntKind.i64.wrap ((i : Int) + 1) = (i : Int) + 1 := IntWalk.i64_in _ (by omega)
          by_cases hle : i + 2 ≤ ta.size
          · have hI : (i : Int) + 2 ≤ ta.size := by omega
            have hI2 : (i : Int) ≤ (i : Int) + 2 := by omega
            have hI3 : ((i : Int) + 2).toNat = i + 2 := by omega
            have hI4 : (0 : Int) ≤ (i : Int) + 2 := by omega
            have hnext : ta.extract i (i + 2) ≠ ⟨#[97, 110]⟩ → ta.extract i (i + 2) ≠ ⟨#[111, 114]⟩ → ∀ k, (Has ta k ⟨#[97, 110]⟩ ∨ Has ta k ⟨#[111, 114]⟩) → i + 1 ≤ k := fun h1 h2 k hk => by
              have h3 := HK.out k hk
              by_cases e : i = k
              · subst e
                rcases hk with hk | hk
                · exact absurd hk.text h1
                · exact absurd hk.text h2
              · omega
            have HN := Lib.hid hnext
            clear hk hg hle hnext htz
            by_cases hx : ta.extract i (i + 2) = ⟨#[97, 110]⟩
            · have b1 := tl_yes (l := [97, 110]) hx
              clear hx
              go_wp2_with fail
              refine hprint.mono ?_
              rintro e w' ⟨rfl, rfl⟩
              go_wp2_with fail
              refine hprint.mono ?_
              rintro e w' ⟨rfl, rfl⟩
              go_wp2_with fail
              go_ret
              exact ⟨rfl, hB6⟩
            · have b1 := tl_no (l := [97, 110]) hx
              by_cases hx2 : ta.extract i (i + 2) = ⟨#[111, 114]⟩
              · have b2 := tl_yes (l := [111, 114]) hx2
                clear hx hx2
                go_wp2_with fail
                refine hprint.mono ?_
                rintro e w' ⟨rfl, rfl⟩
                go_wp2_with fail
                refine hprint.mono ?_
                rintro e w' ⟨rfl, rfl⟩
                go_wp2_with fail
                go_ret
                exact ⟨rfl, hB6⟩
              · have b2 := tl_no (l := [111, 114]) hx2
                have HX := Lib.hid hx
                have HX2 := Lib.hid hx2
                clear hx hx2
                go_wp2_with fail
                refine hprint.mono ?_
                rintro e w' ⟨rfl, rfl⟩
                go_wp2_with fail
                refine hprint.mono ?_
                rintro e w' ⟨rfl, rfl⟩
                go_wp2_with fail
                go_roundg (ta.size - i)
                case rel => exact ⟨i + 1, by simp, by have := HG.out; omega, rfl, HN.out HX.out HX2.out⟩
                case measure => have := HG.out; omega
          · have hI : ¬ (i : Int) + 2 ≤ ta.size := by omega
            have hex : ∃ l, rowsa = [[⟨110, 0, false, l⟩]] ∧ rowsb = [[⟨110, 0, true, l⟩]] := by
              rcases HROWS.out with ⟨k, h⟩ | h
              · have h1 := HK.out k h
                have h2 : k + 2 ≤ ta.size := by rcases h with h | h <;> exact h.1
                omega
              · exact h
            obtain ⟨l, e1, e2⟩ := hex
            have hS := Hold2.mk kD5 kD5 (Below.refl w7.heap.size w7) (Nat.le_refl _)
            have hhold : ∀ W, Below w7.heap.size w7 W → _ := HHO.out
            have hne : rightB neg ds sc = true → (metB neg ds sc rowsa != metB neg ds sc rowsb) = true := fun hr => by
              rw [e1, e2]
              unfold metB
              rw [hr, turned_not]
              cases rowsH ds sc.toNat [[⟨110, 0, false, l⟩]] <;> rfl
            clear hk hg hle htz kD5 e1 e2
            generalize metB neg ds sc rowsa = H1 at *
            generalize metB neg ds sc rowsb = H2 at *
            have hha := fun W h => (hhold W h).1
            have hhb := fun W h => (hhold W h).2
            clear hhold HHO
            cases hr : rightB neg ds sc with
            | true =>
              have hn := hne hr
              clear hne
              go_wp2_with fail
              refine hprint.mono ?_
              rintro e w' ⟨rfl, rfl⟩
              go_upto_if 46 with fail
              rw [show decide ((i : Int) + 2 ≤ (ta.size : Int)) = false from decide_eq_false (by omega)]
              go_upto_region 15 with fail
              refine wp_region_held_drew (S := fun w' => (∀ o, w'.cell? ⟨w.heap.size, o, none⟩ = #[Value.bool neg, Value.string ds, Value.int .i64 sc][o]?) ∧ (∀ o, w'.cell? ⟨w.heap.size, o, none⟩ = #[Value.bool neg, Value.string ds, Value.int .i64 sc][o]?) ∧ Below w7.heap.size w7 w') (by kernel_rfl) (hS.drew.two) (fun hHeld => ?_)
              refine wpAnyH_take (i := 0) (v := ?_) rfl (by kernel_rfl) (by kernel_rfl) (by kernel_rfl) (fun _ _ _ h => h) (Or.inl ⟨by rfl, ?_⟩) hHeld ?_
              rotate_left
              · intro w hSw; (try dsimp only at hSw); first | (go_simp; done) | (go_simp; with_reducible rfl)
              try simp only [Act.put, List.setIfInBounds_toArray, List.set_cons_zero, List.set_cons_succ, List.getElem_toArray, List.getElem_cons_zero, List.getElem_cons_succ]
              refine wpAnyH_ready (rs := [1]) (by kernel_rfl) (by simp) ?_
              refine AllReadyH.cons rfl (fun K hK => ?_) AllReadyH.nil
              go_simp
              go_wp2_with (go_at_call 28; refine (hold_call (check_yes hr _) hS.drew).mono ?_; rintro e wx ⟨rfl, hS3⟩)
              refine hK.out _ _ (hS3.two) (fun hHeld => ?_)
              clear hK K
              refine wpAnyH_take (i := 2) (v := ?_) rfl (by kernel_rfl) (by kernel_rfl) (by kernel_rfl) (fun _ _ _ h => h) (Or.inl ⟨by rfl, ?_⟩) hHeld ?_
              rotate_left
              · intro w hSw; (try dsimp only at hSw); first | (go_simp; done) | (go_simp; with_reducible rfl)
              try simp only [Act.put, List.setIfInBounds_toArray, List.set_cons_zero, List.set_cons_succ, List.getElem_toArray, List.getElem_cons_zero, List.getElem_cons_succ]
              refine wpAnyH_take (i := 3) (v := ?_) rfl (by kernel_rfl) (by kernel_rfl) (by kernel_rfl) (fun _ _ _ h => h) (Or.inl ⟨by rfl, ?_⟩) hHeld ?_
              rotate_left
              · intro w hSw; (try dsimp only at hSw); first | (go_simp; done) | (go_simp; with_reducible rfl)
              try simp only [Act.put, List.setIfInBounds_toArray, List.set_cons_zero, List.set_cons_succ, List.getElem_toArray, List.getElem_cons_zero, List.getElem_cons_succ]
              refine wpAnyH_take (i := 4) (v := ?_) rfl (by kernel_rfl) (by kernel_rfl) (by kernel_rfl) (fun _ _ _ h => h) (Or.inl ⟨by rfl, ?_⟩) hHeld ?_
              rotate_left
              · intro w hSw; (try dsimp only at hSw); first | (go_simp; done) | (go_simp; with_reducible rfl)
              try simp only [Act.put, List.setIfInBounds_toArray, List.set_cons_zero, List.set_cons_succ, List.getElem_toArray, List.getElem_cons_zero, List.getElem_cons_succ]
              refine wpAnyH_take (i := 5) (v := ?_) rfl (by kernel_rfl) (by kernel_rfl) (by kernel_rfl) (fun _ _ _ h => h) (Or.inl ⟨by rfl, ?_⟩) hHeld ?_
              rotate_left
              · intro w hSw; (try dsimp only at hSw); first | (go_simp; done) | (go_simp; with_reducible rfl)
              try simp only [Act.put, List.setIfInBounds_toArray, List.set_cons_zero, List.set_cons_succ, List.getElem_toArray, List.getElem_cons_zero, List.getElem_cons_succ]
              refine wpAnyH_take (i := 7) (v := ?_) rfl (by kernel_rfl) (by kernel_rfl) (by kernel_rfl) (fun _ _ _ h => h) (Or.inl ⟨by rfl, ?_⟩) hHeld ?_
              rotate_left
              · intro w hSw; (try dsimp only at hSw); first | (go_simp; done) | (go_simp; with_reducible rfl)
              try simp only [Act.put, List.setIfInBounds_toArray, List.set_cons_zero, List.set_cons_succ, List.getElem_toArray, List.getElem_cons_zero, List.getElem_cons_succ]
              refine wpAnyH_take (i := 8) (v := ?_) rfl (by kernel_rfl) (by kernel_rfl) (by kernel_rfl) (fun _ _ _ h => h) (Or.inl ⟨by rfl, ?_⟩) hHeld ?_
              rotate_left
              · intro w hSw; (try dsimp only at hSw); first | (go_simp; done) | (go_simp; with_reducible rfl)
              try simp only [Act.put, List.setIfInBounds_toArray, List.set_cons_zero, List.set_cons_succ, List.getElem_toArray, List.getElem_cons_zero, List.getElem_cons_succ]
              refine wpAnyH_ready (rs := [6]) (by kernel_rfl) (by simp) ?_
              refine AllReadyH.cons rfl (fun K hK => ?_) AllReadyH.nil
              go_simp
              go_wp2_with (go_at_call 17; refine (hold_call (hha _ hS3.2.2.2.2.1) hS3).mono ?_; rintro e wx ⟨rfl, hS3⟩)
              refine hK.out _ _ (hS3.two) (fun hHeld => ?_)
              clear hK K
              refine wpAnyH_ready (rs := [9]) (by kernel_rfl) (by simp) ?_
              refine AllReadyH.cons rfl (fun K hK => ?_) AllReadyH.nil
              go_simp
              go_wp2_with (go_at_call 17; refine (hold_call (hhb _ hS3.2.2.2.2.1) hS3).mono ?_; rintro e wx ⟨rfl, hS3⟩)
              refine hK.out _ _ (hS3.two) (fun hHeld => ?_)
              clear hK K
              refine wpAnyH_take (i := 10) (v := ?_) rfl (by kernel_rfl) (by kernel_rfl) (by kernel_rfl) (fun _ _ _ h => h) (Or.inl ⟨by rfl, ?_⟩) hHeld ?_
              rotate_left
              · intro w hSw; (try dsimp only at hSw); first | (go_simp; done) | (go_simp; with_reducible rfl)
              try simp only [Act.put, List.setIfInBounds_toArray, List.set_cons_zero, List.set_cons_succ, List.getElem_toArray, List.getElem_cons_zero, List.getElem_cons_succ]
              refine wpAnyH_take (i := 11) (v := ?_) rfl (by kernel_rfl) (by kernel_rfl) (by kernel_rfl) (fun _ _ _ h => h) (Or.inl ⟨by rfl, ?_⟩) hHeld ?_
              rotate_left
              · intro w hSw; (try dsimp only at hSw); first | (go_simp; done) | (go_simp; with_reducible rfl)
              try simp only [Act.put, List.setIfInBounds_toArray, List.set_cons_zero, List.set_cons_succ, List.getElem_toArray, List.getElem_cons_zero, List.getElem_cons_succ]
              refine wpAnyH_take (i := 12) (v := ?_) rfl (by kernel_rfl) (by kernel_rfl) (by kernel_rfl) (fun _ _ _ h => h) (Or.inl ⟨by rfl, ?_⟩) hHeld ?_
              rotate_left
              · intro w hSw; (try dsimp only at hSw); first | (go_simp; done) | (go_simp; with_reducible rfl)
              try simp only [Act.put, List.setIfInBounds_toArray, List.set_cons_zero, List.set_cons_succ, List.getElem_toArray, List.getElem_cons_zero, List.getElem_cons_succ]
              refine wpAnyH_done (by kernel_rfl) ?_ _
              have hE := hS3.2.2.2.2.1
              clear hS3 hS
              go_wp2_with fail
              go_ret
              exact ⟨ret_bool hn, hB6.trans (hE.mono hB6.size)⟩
            | false =>
              clear hne
              go_wp2_with fail
              refine hprint.mono ?_
              rintro e w' ⟨rfl, rfl⟩
              go_upto_if 46 with fail
              rw [show decide ((i : Int) + 2 ≤ (ta.size : Int)) = false from decide_eq_false (by omega)]
              go_upto_region 15 with fail
              refine wp_region_held_drew (S := fun w' => (∀ o, w'.cell? ⟨w.heap.size, o, none⟩ = #[Value.bool neg, Value.string ds, Value.int .i64 sc][o]?) ∧ (∀ o, w'.cell? ⟨w.heap.size, o, none⟩ = #[Value.bool neg, Value.string ds, Value.int .i64 sc][o]?) ∧ Below w7.heap.size w7 w') (by kernel_rfl) (hS.drew.two) (fun hHeld => ?_)
              refine wpAnyH_take (i := 0) (v := ?_) rfl (by kernel_rfl) (by kernel_rfl) (by kernel_rfl) (fun _ _ _ h => h) (Or.inl ⟨by rfl, ?_⟩) hHeld ?_
              rotate_left
              · intro w hSw; (try dsimp only at hSw); first | (go_simp; done) | (go_simp; with_reducible rfl)
              try simp only [Act.put, List.setIfInBounds_toArray, List.set_cons_zero, List.set_cons_succ, List.getElem_toArray, List.getElem_cons_zero, List.getElem_cons_succ]
              refine wpAnyH_ready (rs := [1]) (by kernel_rfl) (by simp) ?_
              refine AllReadyH.cons rfl (fun K hK => ?_) AllReadyH.nil
              go_simp
              go_wp2_with (go_at_call 28; refine (hold_call (check_no hr _) hS.drew).mono ?_; rintro e wx ⟨rfl, hS3⟩)
              refine hK.out _ _ (hS3.two) (fun hHeld => ?_)
              clear hK K
              refine wpAnyH_take (i := 2) (v := ?_) rfl (by kernel_rfl) (by kernel_rfl) (by kernel_rfl) (fun _ _ _ h => h) (Or.inl ⟨by rfl, ?_⟩) hHeld ?_
              rotate_left
              · intro w hSw; (try dsimp only at hSw); first | (go_simp; done) | (go_simp; with_reducible rfl)
              try simp only [Act.put, List.setIfInBounds_toArray, List.set_cons_zero, List.set_cons_succ, List.getElem_toArray, List.getElem_cons_zero, List.getElem_cons_succ]
              refine wpAnyH_take (i := 3) (v := ?_) rfl (by kernel_rfl) (by kernel_rfl) (by kernel_rfl) (fun _ _ _ h => h) (Or.inl ⟨by rfl, ?_⟩) hHeld ?_
              rotate_left
              · intro w hSw; (try dsimp only at hSw); first | (go_simp; done) | (go_simp; with_reducible rfl)
              try simp only [Act.put, List.setIfInBounds_toArray, List.set_cons_zero, List.set_cons_succ, List.getElem_toArray, List.getElem_cons_zero, List.getElem_cons_succ]
              refine wpAnyH_take (i := 4) (v := undef) rfl (by kernel_rfl) (by kernel_rfl) (by kernel_rfl) (fun _ _ _ h => h) (Or.inr ⟨by rfl, rfl⟩) hHeld ?_
              try simp only [Act.put, List.setIfInBounds_toArray, List.set_cons_zero, List.set_cons_succ, List.getElem_toArray, List.getElem_cons_zero, List.getElem_cons_succ]
              refine wpAnyH_take (i := 5) (v := undef) rfl (by kernel_rfl) (by kernel_rfl) (by kernel_rfl) (fun _ _ _ h => h) (Or.inr ⟨by rfl, rfl⟩) hHeld ?_
              try simp only [Act.put, List.setIfInBounds_toArray, List.set_cons_zero, List.set_cons_succ, List.getElem_toArray, List.getElem_cons_zero, List.getElem_cons_succ]
              refine wpAnyH_take (i := 7) (v := undef) rfl (by kernel_rfl) (by kernel_rfl) (by kernel_rfl) (fun _ _ _ h => h) (Or.inr ⟨by rfl, rfl⟩) hHeld ?_
              try simp only [Act.put, List.setIfInBounds_toArray, List.set_cons_zero, List.set_cons_succ, List.getElem_toArray, List.getElem_cons_zero, List.getElem_cons_succ]
              refine wpAnyH_take (i := 8) (v := undef) rfl (by kernel_rfl) (by kernel_rfl) (by kernel_rfl) (fun _ _ _ h => h) (Or.inr ⟨by rfl, rfl⟩) hHeld ?_
              try simp only [Act.put, List.setIfInBounds_toArray, List.set_cons_zero, List.set_cons_succ, List.getElem_toArray, List.getElem_cons_zero, List.getElem_cons_succ]
              refine wpAnyH_take (i := 6) (v := undef) rfl (by kernel_rfl) (by kernel_rfl) (by kernel_rfl) (fun _ _ _ h => h) (Or.inr ⟨by rfl, rfl⟩) hHeld ?_
              try simp only [Act.put, List.setIfInBounds_toArray, List.set_cons_zero, List.set_cons_succ, List.getElem_toArray, List.getElem_cons_zero, List.getElem_cons_succ]
              refine wpAnyH_take (i := 9) (v := undef) rfl (by kernel_rfl) (by kernel_rfl) (by kernel_rfl) (fun _ _ _ h => h) (Or.inr ⟨by rfl, rfl⟩) hHeld ?_
              try simp only [Act.put, List.setIfInBounds_toArray, List.set_cons_zero, List.set_cons_succ, List.getElem_toArray, List.getElem_cons_zero, List.getElem_cons_succ]
              refine wpAnyH_take (i := 10) (v := undef) rfl (by kernel_rfl) (by kernel_rfl) (by kernel_rfl) (fun _ _ _ h => h) (Or.inr ⟨by rfl, rfl⟩) hHeld ?_
              try simp only [Act.put, List.setIfInBounds_toArray, List.set_cons_zero, List.set_cons_succ, List.getElem_toArray, List.getElem_cons_zero, List.getElem_cons_succ]
              refine wpAnyH_take (i := 11) (v := ?_) rfl (by kernel_rfl) (by kernel_rfl) (by kernel_rfl) (fun _ _ _ h => h) (Or.inl ⟨by rfl, ?_⟩) hHeld ?_
              rotate_left
              · intro w hSw; (try dsimp only at hSw); first | (go_simp; done) | (go_simp; with_reducible rfl)
              try simp only [Act.put, List.setIfInBounds_toArray, List.set_cons_zero, List.set_cons_succ, List.getElem_toArray, List.getElem_cons_zero, List.getElem_cons_succ]
              refine wpAnyH_take (i := 12) (v := ?_) rfl (by kernel_rfl) (by kernel_rfl) (by kernel_rfl) (fun _ _ _ h => h) (Or.inl ⟨by rfl, ?_⟩) hHeld ?_
              rotate_left
              · intro w hSw; (try dsimp only at hSw); first | (go_simp; done) | (go_simp; with_reducible rfl)
              try simp only [Act.put, List.setIfInBounds_toArray, List.set_cons_zero, List.set_cons_succ, List.getElem_toArray, List.getElem_cons_zero, List.getElem_cons_succ]
              refine wpAnyH_done (by kernel_rfl) ?_ _
              have hE := hS3.2.2.2.2.1
              clear hS3 hS
              go_wp2_with fail
              go_ret
              exact ⟨rfl, hB6.trans (hE.mono hB6.size)⟩
end Go.Proofs.YtgbemhehbhlgpaaGreatDoor
