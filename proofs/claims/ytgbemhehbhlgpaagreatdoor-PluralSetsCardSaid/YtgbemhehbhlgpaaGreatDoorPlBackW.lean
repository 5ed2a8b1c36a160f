/-
  PluralBack: a rule that is printed is read as one that holds for the same decimals, and prints the same: the walk of the law.
-/
import Derived.Test.YtgbemhehbhlgpaaGreatDoorPlBk
import Derived.Deep.RegionWith
namespace Go.Proofs.YtgbemhehbhlgpaaGreatDoor
open Go.RowKit Go.PlainAid

/-- What the library's variables hold, for rules. -/
def PW (w : World) : Prop := ∀ W, Below w.heap.size w W → PG W ∧ SpTab W
theorem PW.on {w w' : World} (h : PW w) (hB : Below w.heap.size w w') : PW w' := fun W hW => h W (hB.trans (hW.mono hB.size))
theorem PW.pg {w : World} (h : PW w) : PG w := (h w (Below.refl _ _)).1
theorem wakes_pw (w : World) (h : PW w) : Calls Tryz.prog 11 #[] w fun e w' => e = .returned (.bool true) ∧ Below w.heap.size w w' := wakes_any w h.pg (fun W hW => (h W hW).2)
/-- Does a decimal, if it may be, meet rows? -/
def metB (neg : Bool) (ds : ByteArray) (sc : Int) (rows : List (List Rl)) : Bool := rightB neg ds sc && rowsH ds sc.toNat rows
theorem holds_any (neg : Bool) (ds : ByteArray) (sc : Int) (v : Value) (t : ByteArray) (rows : List (List Rl)) (w : World) (hv : RuleAt w v t rows) (hP : PG w) :
    Calls Tryz.prog 17 #[v, .agg #[.bool neg, .string ds, .int .i64 sc]] w fun e w' => e = .returned (.bool (metB neg ds sc rows)) ∧ Below w.heap.size w w' := by
  unfold metB
  cases hr : rightB neg ds sc with
  | false => exact holds_no hr v t rows w hv
  | true =>
    have h0 : 0 ≤ sc := (of_decide_eq_true hr).2.2.1
    obtain ⟨k, rfl⟩ : ∃ k : Nat, sc = k := ⟨sc.toNat, by omega⟩
    exact holds_yes hr v t rows w hv hP
/-- What Parse hands back: a rule, or nothing and an error. -/
theorem parse_all (s : ByteArray) (w : World) (hP : PG w) :
    Calls Tryz.prog 25 #[.string s] w fun e w' => ((∃ (er at_ : Int), er ≠ 0 ∧ e = .returned (.tuple #[.pointer none, .agg #[.int .i64 er, .int .i64 at_]]) ∧ ((er = 3 ∧ at_ = 0 ∧ 4096 < s.size) ∨ (er = 250 ∧ s.size ≤ 4096 ∧ ∃ q : Nat, at_ = q ∧ ruleP s = .bad q))) ∨
      (s.size ≤ 4096 ∧ ∃ v p rows t, e = .returned (.tuple #[v, .agg #[.int .i64 0, .int .i64 0]]) ∧ ruleP s = .ok p rows t ∧ RuleAt w' v t rows)) ∧ Below w.heap.size w w' := by
  by_cases h : 4096 < s.size
  · exact (parse_long s w h).mono fun e w' ⟨h1, h2⟩ => ⟨.inl ⟨3, 0, by decide, h1, .inl ⟨rfl, rfl, h⟩⟩, h2⟩
  · refine (parse_any s w (by omega) hP).mono fun e w' ⟨h1, h2⟩ => ⟨?_, h2⟩
    cases hr : ruleP s with
    | bad q => rw [hr] at h1; exact .inl ⟨250, q, by decide, h1, .inr ⟨rfl, by omega, q, rfl, rfl⟩⟩
    | ok p rows t => rw [hr] at h1; obtain ⟨v, h1, h3⟩ := h1; exact .inr ⟨by omega, v, p, rows, t, h1, rfl, h3.is⟩

set_option maxRecDepth 100000 in
set_option maxHeartbeats 4000000 in
theorem pluralBack_walk (s : ByteArray) (neg : Bool) (ds : ByteArray) (sc : Int) (w : World) (_ : s.size ≤ 140737488351232) (hw : PW w) :
    Calls Tryz.prog 7 #[.string s, .agg #[.bool neg, .string ds, .int .i64 sc]] w fun e w' => e = .returned (.bool true) ∧ Below w.heap.size w w' := by
  have hA0 := (Below.refl w.heap.size w).alloc (Nat.le_refl _) (.cells #[.bool neg, .string ds, .int .i64 sc] 23)
  have kD := Blk.new w #[.bool neg, .string ds, .int .i64 sc] 23
  have hwk := wakes_pw _ (hw.on hA0)
  go_enter Tryz.func7, Tryz.ntmps7
  go_wp2_with fail
  refine hwk.mono ?_
  rintro e w1 ⟨rfl, hB1'⟩
  have hB1 := hA0.trans (hB1'.mono hA0.size)
  have kD1 := kD.on hB1'
  have hw1 := hw.on hB1
  have hp := parse_all s w1 hw1.pg
  clear hwk kD hA0 hB1'
  go_wp2_with fail
  refine hp.mono ?_
  rintro e w2 ⟨h2 | h2, hB2⟩
  · obtain ⟨er, at_, hne, rfl, _⟩ := h2
    have heI : (er == 0) = false := by simpa using hne
    have hE := (hB1.trans (hB2.mono hB1.size)).alloc (Nat.le_trans hB1.size hB2.size) (.cells #[.int .i64 er, .int .i64 at_] 53)
    clear hp
    go_wp2_with fail
    go_ret
    exact ⟨rfl, hE⟩
  · obtain ⟨hs, v, p, rows, t, rfl, hru, hv⟩ := h2
    obtain ⟨p2, hru2⟩ := rule_back hru
    have hB2' := hB1.trans (hB2.mono hB1.size)
    have hA2 := (Below.refl w2.heap.size w2).alloc (Nat.le_refl _) (.cells #[.int .i64 0, .int .i64 0] 53)
    have hB3 := hB2'.trans (hA2.mono hB2'.size)
    have hv3 := hv.on hA2
    have kD3 := (kD1.on hB2).on hA2
    have hw3 := hw1.on (hB2.trans (hA2.mono hB2.size))
    have HRU := Lib.hid hru; have HRU2 := Lib.hid hru2
    obtain ⟨vb, vf, rfl, hvk⟩ := id hv
    clear hp hru hru2 hvk
    go_wp2_with fail
    generalize w2.alloc (.cells #[.int .i64 0, .int .i64 0] 53) = w3 at *
    refine (print_any _ t rows w3 hv3).mono ?_
    rintro e w' ⟨rfl, rfl⟩
    have hp2 := parse_all t w3 hw3.pg
    go_wp2_with fail
    refine hp2.mono ?_
    rintro e w4 ⟨h4 | h4, hB4⟩
    · obtain ⟨er, at_, hne, rfl, h4⟩ := h4
      rcases h4 with ⟨rfl, rfl, hbig⟩ | ⟨_, _, q, _, hq⟩
      · have hbI : (4096 : Int) < t.size := by omega
        have hE := (hB3.trans (hB4.mono hB3.size)).alloc (Nat.le_trans hB3.size hB4.size) (.cells #[.int .i64 3, .int .i64 0] 53)
        have kS := Blk.new w4 #[.int .i64 3, .int .i64 0] 53
        have s0 := kS.cell 0
        have s1 := kS.cell 1
        simp at s0 s1
        clear hp2 hne hbig
        go_upto_region 8 with fail
        go_quiet (fail)
        go_wp2_with fail
        go_ret
        exact ⟨rfl, bdN0 hE nq⟩
      · rw [HRU2.out] at hq
        cases hq
    · obtain ⟨hts, v2, p3, rows2, t2, rfl, hru3, hv4⟩ := h4
      have hsame := HRU2.out.symm.trans hru3
      injection hsame with _ e2 e3
      subst e2 e3
      have hB4' := hB3.trans (hB4.mono hB3.size)
      have hA4 := (Below.refl w4.heap.size w4).alloc (Nat.le_refl _) (.cells #[.int .i64 0, .int .i64 0] 53)
      have hB5 := hB4'.trans (hA4.mono hB4'.size)
      have kS := Blk.new w4 #[.int .i64 0, .int .i64 0] 53
      have kD5 := (kD3.on hB4).on hA4
      have hv5 := hv4.on hA4
      have hv6 := (hv3.on hB4).on hA4
      have hw5 := hw3.on (hB4.trans (hA4.mono hB4.size))
      obtain ⟨vb2, vf2, rfl, hvk2⟩ := id hv4
      have htI : ¬ (4096 : Int) < t.size := by omega
      clear hp2 hru3 hvk2 hv4 hA4 kD3
      go_upto_region 8 with fail
      generalize w4.alloc (.cells #[.int .i64 0, .int .i64 0] 53) = w5 at *
      have hS := Hold2.mk kS kD5 (Below.refl w5.heap.size w5) (Nat.le_refl _)
      have hhold : ∀ (x : Value), RuleAt w5 x t rows → ∀ W, Below w5.heap.size w5 W → Calls Tryz.prog 17 #[x, .agg #[.bool neg, .string ds, .int .i64 sc]] W fun e w' => e = .returned (.bool (metB neg ds sc rows)) ∧ Below W.heap.size W w' :=
        fun x hx W hW => holds_any neg ds sc x t rows W (hx.on hW) (hw5.on hW).pg
      have hprint : ∀ (x : Value), RuleAt w5 x t rows → ∀ W, Below w5.heap.size w5 W → Calls Tryz.prog 18 #[x] W fun e w' => e = .returned (.string t) ∧ Below W.heap.size W w' :=
        fun x hx W hW => (print_any x t rows W (hx.on hW)).mono fun e w' ⟨h1, h2⟩ => ⟨h1, by rw [← h2]; exact Below.refl _ _⟩
      generalize metB neg ds sc rows = H at *
      clear kS kD5 HRU HRU2 hv3 hw3 hw5
      have htt : (t.toList == t.toList) = true := by simp
      have hHH : (H == H) = true := by simp
      refine wp_region_held_drew (S := fun w' => (∀ o, w'.cell? ⟨w4.heap.size, o, none⟩ = #[Value.int .i64 0, Value.int .i64 0][o]?) ∧ (∀ o, w'.cell? ⟨w.heap.size, o, none⟩ = #[Value.bool neg, Value.string ds, Value.int .i64 sc][o]?) ∧ Below w5.heap.size w5 w') (by kernel_rfl) (hS.drew.two) (fun hHeld => ?_)
      refine wpAnyH_take (i := 0) (v := ?_) rfl (by kernel_rfl) (by kernel_rfl) (by kernel_rfl) (fun _ _ _ h => h) (Or.inl ⟨by rfl, ?_⟩) hHeld ?_
      rotate_left
      · intro w hSw; (try dsimp only at hSw); first | (go_simp; done) | (go_simp; with_reducible rfl)
      try simp only [Act.put, List.setIfInBounds_toArray, List.set_cons_zero, List.set_cons_succ, List.getElem_toArray, List.getElem_cons_zero]
      refine wpAnyH_take (i := 1) (v := ?_) rfl (by kernel_rfl) (by kernel_rfl) (by kernel_rfl) (fun _ _ _ h => h) (Or.inl ⟨by rfl, ?_⟩) hHeld ?_
      rotate_left
      · intro w hSw; (try dsimp only at hSw); first | (go_simp; done) | (go_simp; with_reducible rfl)
      try simp only [Act.put, List.setIfInBounds_toArray, List.set_cons_zero, List.set_cons_succ, List.getElem_toArray, List.getElem_cons_zero, List.getElem_cons_succ]
      refine wpAnyH_take (i := 2) (v := ?_) rfl (by kernel_rfl) (by kernel_rfl) (by kernel_rfl) (fun _ _ _ h => h) (Or.inl ⟨by rfl, ?_⟩) hHeld ?_
      rotate_left
      · intro w hSw; (try dsimp only at hSw); first | (go_simp; done) | (go_simp; with_reducible rfl)
      try simp only [Act.put, List.setIfInBounds_toArray, List.set_cons_zero, List.set_cons_succ, List.getElem_toArray, List.getElem_cons_zero, List.getElem_cons_succ]
      refine wpAnyH_take (i := 3) (v := ?_) rfl (by kernel_rfl) (by kernel_rfl) (by kernel_rfl) (fun _ _ _ h => h) (Or.inl ⟨by rfl, ?_⟩) hHeld ?_
      rotate_left
      · intro w hSw; (try dsimp only at hSw); first | (go_simp; done) | (go_simp; with_reducible rfl)
      try simp only [Act.put, List.setIfInBounds_toArray, List.set_cons_zero, List.set_cons_succ, List.getElem_toArray, List.getElem_cons_zero, List.getElem_cons_succ]
      refine wpAnyH_take (i := 4) (v := ?_) rfl (by kernel_rfl) (by kernel_rfl) (by kernel_rfl) (fun _ _ _ h => h) (Or.inl ⟨by rfl, ?_⟩) hHeld ?_
      rotate_left
      · intro w hSw; (try dsimp only at hSw); first | (go_simp; done) | (go_simp; with_reducible rfl)
      try simp only [Act.put, List.setIfInBounds_toArray, List.set_cons_zero, List.set_cons_succ, List.getElem_toArray, List.getElem_cons_zero, List.getElem_cons_succ]
      refine wpAnyH_take (i := 6) (v := ?_) rfl (by kernel_rfl) (by kernel_rfl) (by kernel_rfl) (fun _ _ _ h => h) (Or.inl ⟨by rfl, ?_⟩) hHeld ?_
      rotate_left
      · intro w hSw; (try dsimp only at hSw); first | (go_simp; done) | (go_simp; with_reducible rfl)
      try simp only [Act.put, List.setIfInBounds_toArray, List.set_cons_zero, List.set_cons_succ, List.getElem_toArray, List.getElem_cons_zero, List.getElem_cons_succ]
      refine wpAnyH_ready (rs := [5]) (by kernel_rfl) (by simp) ?_
      refine AllReadyH.cons rfl (fun K hK => ?_) AllReadyH.nil
      go_simp
      go_wp2_with (go_at_call 18; refine (hold_call (hprint _ hv5 _ hS.drew.2.2.2.2.1) hS.drew).mono ?_; rintro e wx ⟨rfl, hS3⟩)
      refine hK.out _ _ (hS3.two) (fun hHeld => ?_)
      clear hK K
      refine wpAnyH_take (i := 7) (v := ?_) rfl (by kernel_rfl) (by kernel_rfl) (by kernel_rfl) (fun _ _ _ h => h) (Or.inl ⟨by rfl, ?_⟩) hHeld ?_
      rotate_left
      · intro w hSw; (try dsimp only at hSw); first | (go_simp; done) | (go_simp; with_reducible rfl)
      try simp only [Act.put, List.setIfInBounds_toArray, List.set_cons_zero, List.set_cons_succ, List.getElem_toArray, List.getElem_cons_zero, List.getElem_cons_succ]
      refine wpAnyH_take (i := 8) (v := ?_) rfl (by kernel_rfl) (by kernel_rfl) (by kernel_rfl) (fun _ _ _ h => h) (Or.inl ⟨by rfl, ?_⟩) hHeld ?_
      rotate_left
      · intro w hSw; (try dsimp only at hSw); first | (go_simp; done) | (go_simp; with_reducible rfl)
      try simp only [Act.put, List.setIfInBounds_toArray, List.set_cons_zero, List.set_cons_succ, List.getElem_toArray, List.getElem_cons_zero, List.getElem_cons_succ]
      refine wpAnyH_take (i := 9) (v := ?_) rfl (by kernel_rfl) (by kernel_rfl) (by kernel_rfl) (fun _ _ _ h => h) (Or.inl ⟨by rfl, ?_⟩) hHeld ?_
      rotate_left
      · intro w hSw; (try dsimp only at hSw); first | (go_simp; done) | (go_simp; with_reducible rfl)
      try simp only [Act.put, List.setIfInBounds_toArray, List.set_cons_zero, List.set_cons_succ, List.getElem_toArray, List.getElem_cons_zero, List.getElem_cons_succ]
      refine wpAnyH_take (i := 10) (v := ?_) rfl (by kernel_rfl) (by kernel_rfl) (by kernel_rfl) (fun _ _ _ h => h) (Or.inl ⟨by rfl, ?_⟩) hHeld ?_
      rotate_left
      · intro w hSw; (try dsimp only at hSw); first | (go_simp; done) | (go_simp; with_reducible rfl)
      try simp only [Act.put, List.setIfInBounds_toArray, List.set_cons_zero, List.set_cons_succ, List.getElem_toArray, List.getElem_cons_zero, List.getElem_cons_succ]
      refine wpAnyH_take (i := 11) (v := ?_) rfl (by kernel_rfl) (by kernel_rfl) (by kernel_rfl) (fun _ _ _ h => h) (Or.inl ⟨by rfl, ?_⟩) hHeld ?_
      rotate_left
      · intro w hSw; (try dsimp only at hSw); first | (go_simp; done) | (go_simp; with_reducible rfl)
      try simp only [Act.put, List.setIfInBounds_toArray, List.set_cons_zero, List.set_cons_succ, List.getElem_toArray, List.getElem_cons_zero, List.getElem_cons_succ]
      refine wpAnyH_take (i := 13) (v := ?_) rfl (by kernel_rfl) (by kernel_rfl) (by kernel_rfl) (fun _ _ _ h => h) (Or.inl ⟨by rfl, ?_⟩) hHeld ?_
      rotate_left
      · intro w hSw; (try dsimp only at hSw); first | (go_simp; done) | (go_simp; with_reducible rfl)
      try simp only [Act.put, List.setIfInBounds_toArray, List.set_cons_zero, List.set_cons_succ, List.getElem_toArray, List.getElem_cons_zero, List.getElem_cons_succ]
      refine wpAnyH_take (i := 14) (v := ?_) rfl (by kernel_rfl) (by kernel_rfl) (by kernel_rfl) (fun _ _ _ h => h) (Or.inl ⟨by rfl, ?_⟩) hHeld ?_
      rotate_left
      · intro w hSw; (try dsimp only at hSw); first | (go_simp; done) | (go_simp; with_reducible rfl)
      try simp only [Act.put, List.setIfInBounds_toArray, List.set_cons_zero, List.set_cons_succ, List.getElem_toArray, List.getElem_cons_zero, List.getElem_cons_succ]
      refine wpAnyH_ready (rs := [12]) (by kernel_rfl) (by simp) ?_
      refine AllReadyH.cons rfl (fun K hK => ?_) AllReadyH.nil
      go_simp
      go_wp2_with (go_at_call 17; refine (hold_call (hhold _ hv5 _ hS3.2.2.2.2.1) hS3).mono ?_; rintro e wx ⟨rfl, hS3⟩)
      refine hK.out _ _ (hS3.two) (fun hHeld => ?_)
      clear hK K
      refine wpAnyH_ready (rs := [15]) (by kernel_rfl) (by simp) ?_
      refine AllReadyH.cons rfl (fun K hK => ?_) AllReadyH.nil
      go_simp
      go_wp2_with (go_at_call 17; refine (hold_call (hhold _ hv6 _ hS3.2.2.2.2.1) hS3).mono ?_; rintro e wx ⟨rfl, hS3⟩)
      refine hK.out _ _ (hS3.two) (fun hHeld => ?_)
      clear hK K
      refine wpAnyH_take (i := 16) (v := ?_) rfl (by kernel_rfl) (by kernel_rfl) (by kernel_rfl) (fun _ _ _ h => h) (Or.inl ⟨by rfl, ?_⟩) hHeld ?_
      rotate_left
      · intro w hSw; (try dsimp only at hSw); first | (go_simp; done) | (go_simp; with_reducible rfl)
      try simp only [Act.put, List.setIfInBounds_toArray, List.set_cons_zero, List.set_cons_succ, List.getElem_toArray, List.getElem_cons_zero, List.getElem_cons_succ]
      refine wpAnyH_take (i := 17) (v := ?_) rfl (by kernel_rfl) (by kernel_rfl) (by kernel_rfl) (fun _ _ _ h => h) (Or.inl ⟨by rfl, ?_⟩) hHeld ?_
      rotate_left
      · intro w hSw; (try dsimp only at hSw); first | (go_simp; done) | (go_simp; with_reducible rfl)
      try simp only [Act.put, List.setIfInBounds_toArray, List.set_cons_zero, List.set_cons_succ, List.getElem_toArray, List.getElem_cons_zero, List.getElem_cons_succ]
      refine wpAnyH_take (i := 18) (v := ?_) rfl (by kernel_rfl) (by kernel_rfl) (by kernel_rfl) (fun _ _ _ h => h) (Or.inl ⟨by rfl, ?_⟩) hHeld ?_
      rotate_left
      · intro w hSw; (try dsimp only at hSw); first | (go_simp; done) | (go_simp; with_reducible rfl)
      try simp only [Act.put, List.setIfInBounds_toArray, List.set_cons_zero, List.set_cons_succ, List.getElem_toArray, List.getElem_cons_zero, List.getElem_cons_succ]
      refine wpAnyH_take (i := 19) (v := undef) rfl (by kernel_rfl) (by kernel_rfl) (by kernel_rfl) (fun _ _ _ h => h) (Or.inr ⟨by rfl, rfl⟩) hHeld ?_
      try simp only [Act.put, List.setIfInBounds_toArray, List.set_cons_zero, List.set_cons_succ, List.getElem_toArray, List.getElem_cons_zero, List.getElem_cons_succ]
      refine wpAnyH_take (i := 20) (v := undef) rfl (by kernel_rfl) (by kernel_rfl) (by kernel_rfl) (fun _ _ _ h => h) (Or.inr ⟨by rfl, rfl⟩) hHeld ?_
      try simp only [Act.put, List.setIfInBounds_toArray, List.set_cons_zero, List.set_cons_succ, List.getElem_toArray, List.getElem_cons_zero, List.getElem_cons_succ]
      refine wpAnyH_take (i := 21) (v := undef) rfl (by kernel_rfl) (by kernel_rfl) (by kernel_rfl) (fun _ _ _ h => h) (Or.inr ⟨by rfl, rfl⟩) hHeld ?_
      try simp only [Act.put, List.setIfInBounds_toArray, List.set_cons_zero, List.set_cons_succ, List.getElem_toArray, List.getElem_cons_zero, List.getElem_cons_succ]
      refine wpAnyH_take (i := 22) (v := ?_) rfl (by kernel_rfl) (by kernel_rfl) (by kernel_rfl) (fun _ _ _ h => h) (Or.inl ⟨by rfl, ?_⟩) hHeld ?_
      rotate_left
      · intro w hSw; (try dsimp only at hSw); first | (go_simp; done) | (go_simp; with_reducible rfl)
      try simp only [Act.put, List.setIfInBounds_toArray, List.set_cons_zero, List.set_cons_succ, List.getElem_toArray, List.getElem_cons_zero, List.getElem_cons_succ]
      refine wpAnyH_take (i := 23) (v := ?_) rfl (by kernel_rfl) (by kernel_rfl) (by kernel_rfl) (fun _ _ _ h => h) (Or.inl ⟨by rfl, ?_⟩) hHeld ?_
      rotate_left
      · intro w hSw; (try dsimp only at hSw); first | (go_simp; done) | (go_simp; with_reducible rfl)
      try simp only [Act.put, List.setIfInBounds_toArray, List.set_cons_zero, List.set_cons_succ, List.getElem_toArray, List.getElem_cons_zero, List.getElem_cons_succ]
      refine wpAnyH_done (by kernel_rfl) ?_ _
      have hE := hS3.2.2.2.2.1
      clear hS3 hS
      go_wp2_with fail
      go_ret
      exact ⟨rfl, hB5.trans (hE.mono hB5.size)⟩
end Go.Proofs.YtgbemhehbhlgpaaGreatDoor
