/-
  PluralSigns: the sign of a decimal changes nothing; of a whole number f, t, v and w are 0: the walk of the law.
-/
import Derived.Test.YtgbemhehbhlgpaaGreatDoorPlCm
import Derived.Test.YtgbemhehbhlgpaaGreatDoorPlSg
import Derived.Deep.LoopGhost
namespace Go.Proofs.YtgbemhehbhlgpaaGreatDoor
open Go.RowKit Go.PlainAid

/-- Three blocks, as they are. -/
def Hold3 (B : Nat) (w0 : World) (b0 : Nat) (c0 : Array Value) (b1 : Nat) (c1 : Array Value) (b2 : Nat) (c2 : Array Value) (w' : World) : Prop := Blk w' b0 c0 ∧ Blk w' b1 c1 ∧ Blk w' b2 c2 ∧ Below B w0 w'
theorem Hold3.on {B : Nat} {w0 : World} {b0 : Nat} {c0 : Array Value} {b1 : Nat} {c1 : Array Value} {b2 : Nat} {c2 : Array Value} {w' w'' : World} (h : Hold3 B w0 b0 c0 b1 c1 b2 c2 w') (hB : Below w'.heap.size w' w'') (hz : B ≤ w'.heap.size) : Hold3 B w0 b0 c0 b1 c1 b2 c2 w'' :=
  ⟨h.1.on hB, h.2.1.on hB, h.2.2.1.on hB, h.2.2.2.trans (hB.mono hz)⟩
theorem Hold3.drew {B : Nat} {w0 : World} {b0 : Nat} {c0 : Array Value} {b1 : Nat} {c1 : Array Value} {b2 : Nat} {c2 : Array Value} {w' : World} (h : Hold3 B w0 b0 c0 b1 c1 b2 c2 w') : Hold3 B w0 b0 c0 b1 c1 b2 c2 w'.drew :=
  ⟨h.1.on (Below.refl _ _).drew, h.2.1.on (Below.refl _ _).drew, h.2.2.1.on (Below.refl _ _).drew, h.2.2.2.drew⟩
theorem Hold3.three {B : Nat} {w0 : World} {b0 : Nat} {c0 : Array Value} {b1 : Nat} {c1 : Array Value} {b2 : Nat} {c2 : Array Value} {w' : World} (h : Hold3 B w0 b0 c0 b1 c1 b2 c2 w') : (∀ o, w'.cell? ⟨b0, o, none⟩ = c0[o]?) ∧ (∀ o, w'.cell? ⟨b1, o, none⟩ = c1[o]?) ∧ (∀ o, w'.cell? ⟨b2, o, none⟩ = c2[o]?) ∧ Below B w0 w' :=
  ⟨h.1.cell, h.2.1.cell, h.2.2.1.cell, h.2.2.2⟩
theorem hold3_call {P : Program} {f : FuncId} {args : Array Value} {v : Value} {w0 : World} {b0 : Nat} {c0 : Array Value} {b1 : Nat} {c1 : Array Value} {b2 : Nat} {c2 : Array Value} {W : World} (h : Calls P f args W fun e w' => e = .returned v ∧ Below W.heap.size W w') (hS : Hold3 w0.heap.size w0 b0 c0 b1 c1 b2 c2 W) :
    Calls P f args W fun e w' => e = .returned v ∧ Hold3 w0.heap.size w0 b0 c0 b1 c1 b2 c2 w' := h.mono fun _ _ ⟨e, hB⟩ => ⟨e, hS.on hB hS.2.2.2.size⟩

set_option maxRecDepth 100000 in
set_option maxHeartbeats 1000000 in
theorem neg_no {neg : Bool} {ds : ByteArray} {k : Int} (h : rightB neg ds k = false) (w : World) :
    Calls Tryz.prog 29 #[.agg #[.bool neg, .string ds, .int .i64 k]] w fun e w' => e = .returned (decE (false, ⟨#[]⟩, 0, 2)) ∧ Below w.heap.size w w' := by
  have hc1 := fun W => check_no h W
  clear h
  go_enter Tryz.func29, Tryz.ntmps29
  go_wp2_with fail
  refine (hc1 _).mono ?_
  rintro e w1 ⟨rfl, hB1⟩
  have ka := ((Blk.new w _ _).alloc _).on hB1
  have kb := (Blk.new' (w.alloc _) _ _ (w.heap.size + 1) (by simp)).on hB1
  have hBw := (((Below.refl w.heap.size w).alloc (Nat.le_refl _) _).alloc (by simp) _).trans (hB1.mono (by simp; omega))
  have ca := ka.cell
  have fa := ka.free
  have cb := kb.cell
  have fb := kb.free
  clear hc1 hB1
  go_wp2_with fail
  refine bodyPost_ret ?_ rfl ⟨rfl, ?_⟩
  · simp [results, Tryz.results29, go_sem, cb]
  · repeat (refine Below.setCell ?_ (by first | exact Nat.le_refl _ | exact Nat.le_succ _) _)
    exact hBw
/-- dec.Neg of whatever stands in a decimal's place. -/
theorem neg_any (neg : Bool) (ds : ByteArray) (k : Int) (w : World) :
    Calls Tryz.prog 29 #[.agg #[.bool neg, .string ds, .int .i64 k]] w fun e w' => (∃ n2 d2 k2 e2, e = .returned (.tuple #[.agg #[.bool n2, .string d2, .int .i64 k2], .int .i64 e2]) ∧ ((e2 == 0) = false ∨ (e2 = 0 ∧ ∀ rows, metB n2 d2 k2 rows = metB neg ds k rows))) ∧ Below w.heap.size w w' := by
  cases h : rightB neg ds k with
  | false => exact (neg_no h w).mono fun e w' ⟨h1, h2⟩ => ⟨⟨_, _, _, _, h1, .inl (by decide)⟩, h2⟩
  | true => exact (neg_yes h w).mono fun e w' ⟨h1, h2⟩ => ⟨⟨_, _, _, _, h1, .inr ⟨rfl, met_turned h⟩⟩, h2⟩
theorem letter_at (i : Nat) (h : i < 4) : ∃ o : UInt8, (o = 102 ∨ o = 116 ∨ o = 118 ∨ o = 119) ∧ (#[Value.string ⟨#[102]⟩, Value.string ⟨#[116]⟩, Value.string ⟨#[118]⟩, Value.string ⟨#[119]⟩] : Array Value)[i]? = some (.string ⟨#[o]⟩) := by
  have hi : i = 0 ∨ i = 1 ∨ i = 2 ∨ i = 3 := by omega
  rcases hi with rfl | rfl | rfl | rfl
  · exact ⟨102, .inl rfl, rfl⟩
  · exact ⟨116, .inr (.inl rfl), rfl⟩
  · exact ⟨118, .inr (.inr (.inl rfl)), rfl⟩
  · exact ⟨119, .inr (.inr (.inr rfl)), rfl⟩
theorem sg_join {o : UInt8} (ho : o = 102 ∨ o = 116 ∨ o = 118 ∨ o = 119) : (⟨#[o]⟩ : ByteArray) ++ ⟨#[32, 61, 32, 48]⟩ = sgB o := by
  rcases ho with rfl | rfl | rfl | rfl <;> rfl

set_option maxRecDepth 100000 in
set_option maxHeartbeats 4000000 in
theorem pluralSigns_walk (s : ByteArray) (neg : Bool) (ds : ByteArray) (sc : Int) (n : Int) (w : World) (hn1 : -9223372036854775808 ≤ n) (hn2 : n ≤ 9223372036854775807) (_ : s.size ≤ 140737488351232) (hw : PW w) :
    Calls Tryz.prog 10 #[.string s, .agg #[.bool neg, .string ds, .int .i64 sc], .int .i64 n] w fun e w' => e = .returned (.bool true) ∧ Below w.heap.size w w' := by
  have hA0 := (Below.refl w.heap.size w).alloc (Nat.le_refl _) (.cells #[.bool neg, .string ds, .int .i64 sc] 23)
  have kD := Blk.new w #[.bool neg, .string ds, .int .i64 sc] 23
  have hwk := wakes_pw _ (hw.on hA0)
  have HN1 := Lib.hid hn1
  have HN2 := Lib.hid hn2
  clear hn1 hn2
  go_enter Tryz.func10, Tryz.ntmps10
  go_wp2_with fail
  refine hwk.mono ?_
  rintro e w1 ⟨rfl, hB1'⟩
  have hB1 := hA0.trans (hB1'.mono hA0.size)
  have kD1 := kD.on hB1'
  have hw1 := hw.on hB1
  have hp := parse_tup s w1 hw1.pg
  clear hwk kD hA0 hB1'
  go_wp2_with fail
  refine hp.mono ?_
  rintro e w2 ⟨⟨v1, er, at_, rfl, h1⟩, hB2⟩
  have hB2' := hB1.trans (hB2.mono hB1.size)
  have hA2 := (Below.refl w2.heap.size w2).alloc (Nat.le_refl _) (.cells #[.int .i64 er, .int .i64 at_] 53)
  have hB3 := hB2'.trans (hA2.mono hB2'.size)
  have kX := Blk.new w2 #[.int .i64 er, .int .i64 at_] 53
  have kD3 := (kD1.on hB2).on hA2
  have hw3 := hw1.on (hB2.trans (hA2.mono hB2.size))
  have hd0 := kD3.cell 0
  have hd1 := kD3.cell 1
  have hd2 := kD3.cell 2
  simp at hd0 hd1 hd2
  have hng := neg_any neg ds sc (w2.alloc (.cells #[.int .i64 er, .int .i64 at_] 53))
  have h1' : (er == 0) = false ∨ (er = 0 ∧ at_ = 0 ∧ ∃ rows t, RuleAt (w2.alloc (.cells #[.int .i64 er, .int .i64 at_] 53)) v1 t rows) := h1.imp id fun ⟨g1, g2, _, _, rows, t, _, g5⟩ => ⟨g1, g2, rows, t, g5.on hA2⟩
  have H1 := Lib.hid h1'
  clear hp h1 h1' hA2 kD1 hw1 hB2
  go_wp2_with fail
  generalize w2.alloc (.cells #[.int .i64 er, .int .i64 at_] 53) = w3 at *
  refine hng.mono ?_
  rintro e w4 ⟨⟨n2, d2, k2, e2, rfl, h2⟩, hB4⟩
  have hB4' := hB3.trans (hB4.mono hB3.size)
  have hA4 := (Below.refl w4.heap.size w4).alloc (Nat.le_refl _) (.cells #[.bool n2, .string d2, .int .i64 k2] 23)
  have hB5 := hB4'.trans (hA4.mono hB4'.size)
  have hB45 := hB4.trans (hA4.mono hB4.size)
  have kX5 := kX.on hB45
  have kO := Blk.new w4 #[.bool n2, .string d2, .int .i64 k2] 23
  have kD5 := kD3.on hB45
  have hw5 := hw3.on hB45
  have hS := (show Hold3 _ _ _ _ _ _ _ _ _ from ⟨kX5, kD5, kO, Below.refl (w4.alloc (.cells #[.bool n2, .string d2, .int .i64 k2] 23)).heap.size _⟩)
  have h1' : (er == 0) = false ∨ (er = 0 ∧ at_ = 0 ∧ ∃ rows t, RuleAt (w4.alloc (.cells #[.bool n2, .string d2, .int .i64 k2] 23)) v1 t rows) := H1.out.imp id fun ⟨g1, g2, rows, t, g5⟩ => ⟨g1, g2, rows, t, g5.on hB45⟩
  have H1 := Lib.hid h1'
  have H2 := Lib.hid h2
  clear hng hA4 kX kX5 kO kD3 kD5 hw3 hB4 hB45 h1' h2 hd0 hd1 hd2
  go_upto_region 5 with fail
  generalize w4.alloc (.cells #[.bool n2, .string d2, .int .i64 k2] 23) = w5 at *
  rcases H1.out with he1 | ⟨rfl, rfl, rows, t, hv⟩
  · clear H1 H2
    refine wp_region_held_drew (S := fun w' => (∀ o, w'.cell? ⟨w2.heap.size, o, none⟩ = #[Value.int .i64 er, Value.int .i64 at_][o]?) ∧ (∀ o, w'.cell? ⟨w.heap.size, o, none⟩ = #[Value.bool neg, Value.string ds, Value.int .i64 sc][o]?) ∧ (∀ o, w'.cell? ⟨w4.heap.size, o, none⟩ = #[Value.bool n2, Value.string d2, Value.int .i64 k2][o]?) ∧ Below w5.heap.size w5 w') (by kernel_rfl) (hS.drew.three) (fun hHeld => ?_)
    refine wpAnyH_take (i := 0) (v := ?_) rfl (by kernel_rfl) (by kernel_rfl) (by kernel_rfl) (fun _ _ _ h => h) (Or.inl ⟨by rfl, ?_⟩) hHeld ?_
    rotate_left
    · intro w hSw; (try dsimp only at hSw); first | (go_simp; done) | (go_simp; with_reducible rfl)
    try simp only [Act.put, List.setIfInBounds_toArray, List.set_cons_zero, List.set_cons_succ, List.getElem_toArray, List.getElem_cons_zero, List.getElem_cons_succ]
    refine wpAnyH_take (i := 1) (v := ?_) rfl (by kernel_rfl) (by kernel_rfl) (by kernel_rfl) (fun _ _ _ h => h) (Or.inl ⟨by rfl, ?_⟩) hHeld ?_
    rotate_left
    · intro w hSw; (try dsimp only at hSw); first | (go_simp; done) | (go_simp; with_reducible rfl)
    try simp only [Act.put, List.setIfInBounds_toArray, List.set_cons_zero, List.set_cons_succ, List.getElem_toArray, List.getElem_cons_zero, List.getElem_cons_succ]
    refine wpAnyH_take (i := 2) (v := ?_) rfl (by kernel_rfl) (by kernel_rfl) (by kernel_rfl) (fun _ _ _ h => h) (Or.inl ⟨by rfl, ?_⟩) hHeld ?_
    rotate_left
    · intro w hSw; (try dsimp only at hSw); first | (go_simp; done) | (go_simp; with_reducible rfl)
    try simp only [Act.put, List.setIfInBounds_toArray, List.set_cons_zero, List.set_cons_succ, List.getElem_toArray, List.getElem_cons_zero, List.getElem_cons_succ]
    refine wpAnyH_take (i := 3) (v := ?_) rfl (by kernel_rfl) (by kernel_rfl) (by kernel_rfl) (fun _ _ _ h => h) (Or.inl ⟨by rfl, ?_⟩) hHeld ?_
    rotate_left
    · intro w hSw; (try dsimp only at hSw); first | (go_simp; done) | (go_simp; with_reducible rfl)
    try simp only [Act.put, List.setIfInBounds_toArray, List.set_cons_zero, List.set_cons_succ, List.getElem_toArray, List.getElem_cons_zero, List.getElem_cons_succ]
    refine wpAnyH_take (i := 4) (v := undef) rfl (by kernel_rfl) (by kernel_rfl) (by kernel_rfl) (fun _ _ _ h => h) (Or.inr ⟨by rfl, rfl⟩) hHeld ?_
    try simp only [Act.put, List.setIfInBounds_toArray, List.set_cons_zero, List.set_cons_succ, List.getElem_toArray, List.getElem_cons_zero, List.getElem_cons_succ]
    refine wpAnyH_take (i := 5) (v := undef) rfl (by kernel_rfl) (by kernel_rfl) (by kernel_rfl) (fun _ _ _ h => h) (Or.inr ⟨by rfl, rfl⟩) hHeld ?_
    try simp only [Act.put, List.setIfInBounds_toArray, List.set_cons_zero, List.set_cons_succ, List.getElem_toArray, List.getElem_cons_zero, List.getElem_cons_succ]
    refine wpAnyH_take (i := 6) (v := ?_) rfl (by kernel_rfl) (by kernel_rfl) (by kernel_rfl) (fun _ _ _ h => h) (Or.inl ⟨by rfl, ?_⟩) hHeld ?_
    rotate_left
    · intro w hSw; (try dsimp only at hSw); first | (go_simp; done) | (go_simp; with_reducible rfl)
    try simp only [Act.put, List.setIfInBounds_toArray, List.set_cons_zero, List.set_cons_succ, List.getElem_toArray, List.getElem_cons_zero, List.getElem_cons_succ]
    refine wpAnyH_take (i := 7) (v := ?_) rfl (by kernel_rfl) (by kernel_rfl) (by kernel_rfl) (fun _ _ _ h => h) (Or.inl ⟨by rfl, ?_⟩) hHeld ?_
    rotate_left
    · intro w hSw; (try dsimp only at hSw); first | (go_simp; done) | (go_simp; with_reducible rfl)
    try simp only [Act.put, List.setIfInBounds_toArray, List.set_cons_zero, List.set_cons_succ, List.getElem_toArray, List.getElem_cons_zero, List.getElem_cons_succ]
    refine wpAnyH_take (i := 8) (v := undef) rfl (by kernel_rfl) (by kernel_rfl) (by kernel_rfl) (fun _ _ _ h => h) (Or.inr ⟨by rfl, rfl⟩) hHeld ?_
    try simp only [Act.put, List.setIfInBounds_toArray, List.set_cons_zero, List.set_cons_succ, List.getElem_toArray, List.getElem_cons_zero, List.getElem_cons_succ]
    refine wpAnyH_take (i := 9) (v := undef) rfl (by kernel_rfl) (by kernel_rfl) (by kernel_rfl) (fun _ _ _ h => h) (Or.inr ⟨by rfl, rfl⟩) hHeld ?_
    try simp only [Act.put, List.setIfInBounds_toArray, List.set_cons_zero, List.set_cons_succ, List.getElem_toArray, List.getElem_cons_zero, List.getElem_cons_succ]
    refine wpAnyH_take (i := 11) (v := undef) rfl (by kernel_rfl) (by kernel_rfl) (by kernel_rfl) (fun _ _ _ h => h) (Or.inr ⟨by rfl, rfl⟩) hHeld ?_
    try simp only [Act.put, List.setIfInBounds_toArray, List.set_cons_zero, List.set_cons_succ, List.getElem_toArray, List.getElem_cons_zero, List.getElem_cons_succ]
    refine wpAnyH_take (i := 12) (v := undef) rfl (by kernel_rfl) (by kernel_rfl) (by kernel_rfl) (fun _ _ _ h => h) (Or.inr ⟨by rfl, rfl⟩) hHeld ?_
    try simp only [Act.put, List.setIfInBounds_toArray, List.set_cons_zero, List.set_cons_succ, List.getElem_toArray, List.getElem_cons_zero, List.getElem_cons_succ]
    refine wpAnyH_take (i := 10) (v := undef) rfl (by kernel_rfl) (by kernel_rfl) (by kernel_rfl) (fun _ _ _ h => h) (Or.inr ⟨by rfl, rfl⟩) hHeld ?_
    try simp only [Act.put, List.setIfInBounds_toArray, List.set_cons_zero, List.set_cons_succ, List.getElem_toArray, List.getElem_cons_zero, List.getElem_cons_succ]
    refine wpAnyH_take (i := 13) (v := undef) rfl (by kernel_rfl) (by kernel_rfl) (by kernel_rfl) (fun _ _ _ h => h) (Or.inr ⟨by rfl, rfl⟩) hHeld ?_
    try simp only [Act.put, List.setIfInBounds_toArray, List.set_cons_zero, List.set_cons_succ, List.getElem_toArray, List.getElem_cons_zero, List.getElem_cons_succ]
    refine wpAnyH_take (i := 14) (v := undef) rfl (by kernel_rfl) (by kernel_rfl) (by kernel_rfl) (fun _ _ _ h => h) (Or.inr ⟨by rfl, rfl⟩) hHeld ?_
    try simp only [Act.put, List.setIfInBounds_toArray, List.set_cons_zero, List.set_cons_succ, List.getElem_toArray, List.getElem_cons_zero, List.getElem_cons_succ]
    refine wpAnyH_take (i := 15) (v := ?_) rfl (by kernel_rfl) (by kernel_rfl) (by kernel_rfl) (fun _ _ _ h => h) (Or.inl ⟨by rfl, ?_⟩) hHeld ?_
    rotate_left
    · intro w hSw; (try dsimp only at hSw); first | (go_simp; done) | (go_simp; with_reducible rfl)
    try simp only [Act.put, List.setIfInBounds_toArray, List.set_cons_zero, List.set_cons_succ, List.getElem_toArray, List.getElem_cons_zero, List.getElem_cons_succ]
    refine wpAnyH_done (by kernel_rfl) ?_ _
    have hE := (Below.refl w5.heap.size w5).drew
    clear hS
    generalize w5.drew = w6 at *
    have hB6 := hB5.trans (hE.mono hB5.size)
    have hw6 := hw5.on hE
    have hA7 := (Below.refl w6.heap.size w6).alloc (Nat.le_refl _) (.cells #[.string ⟨#[102]⟩, .string ⟨#[116]⟩, .string ⟨#[118]⟩, .string ⟨#[119]⟩] 9)
    have kL := Blk.new w6 #[.string ⟨#[102]⟩, .string ⟨#[116]⟩, .string ⟨#[118]⟩, .string ⟨#[119]⟩] 9
    have hB7 := hB6.trans (hA7.mono hB6.size)
    have hw7 := hw6.on hA7
    clear hE hB6 hw6 hA7 hw5 hB5
    go_wp2_with fail
    generalize w6.alloc (.cells #[.string ⟨#[102]⟩, .string ⟨#[116]⟩, .string ⟨#[118]⟩, .string ⟨#[119]⟩] 9) = w7 at *
    go_loopg [45] 5 (fun g s45 wr => ∃ i : Nat, s45 = .int .i64 (i : Int) ∧ g + i = 5 ∧ Below w7.heap.size w7 wr)
    case atStart => exact ⟨0, rfl, rfl, Below.refl _ _⟩
    case round =>
      obtain ⟨i, rfl, hg, hBr⟩ := hrel
      have HG := Lib.hid hg
      by_cases hi : i < 4
      · obtain ⟨o, ho, hc⟩ := letter_at i hi
        have hiI : (i : Int) < 4 := by omega
        have hi0 : (0 : Int) ≤ i := by omega
        have hiw : IntKind.i64.wrap ((i : Int) + 1) = (i : Int) + 1 := IntWalk.i64_in _ (by omega)
        have hcell : wr.cell? ⟨w6.heap.size, i, none⟩ = some (.string ⟨#[o]⟩) := by rw [(kL.on hBr).cell]; exact hc
        have hpo := sg_parse ho wr (hw7.on hBr).pg
        rw [← sg_join ho] at hpo
        have hXz : ¬ 9223372036854775807 < (⟨#[o]⟩ : ByteArray).size + 4 := by show ¬ 9223372036854775807 < 1 + 4; decide
        have hBw := hB7.trans (hBr.mono hB7.size)
        have hw8 := hw7.on hBr
        have HI := Lib.hid hi
        clear ho hc hi hg
        obtain ⟨X, hX⟩ : ∃ X : ByteArray, ⟨#[o]⟩ = X := ⟨_, rfl⟩
        rw [hX] at hcell hpo hXz
        clear hX
        go_wp2_with fail
        refine hpo.mono ?_
        rintro e w8 ⟨⟨v, rows, rfl, hv, hrow⟩, hB8⟩
        have hA8 := (Below.refl w8.heap.size w8).alloc (Nat.le_refl _) (.cells #[.int .i64 0, .int .i64 0] 53)
        have hB8r := hBr.trans (hB8.mono hBr.size)
        have hB9 := hB8r.trans (hA8.mono hB8r.size)
        have hv9 := hv.on hA8
        have hw9 := hw7.on hB9
        have hof := of_any n HN1.out HN2.out _ hw9.pg
        obtain ⟨vb, vf, rfl, hvk⟩ := id hv
        clear hpo hv hvk hA8 hB8 hw8 hBw
        go_wp2_with fail
        generalize w8.alloc (.cells #[.int .i64 0, .int .i64 0] 53) = w9 at *
        refine hof.mono ?_
        rintro e w10 ⟨⟨ng, dd, hrr, rfl⟩, hB10⟩
        have hB10r := hB9.trans (hB10.mono hB9.size)
        have hh := holds_any ng dd 0 _ _ rows w10 (hv9.on hB10) (hw9.on hB10).pg
        have hm : metB ng dd 0 rows = true := by
          unfold metB
          rw [hrr]
          exact hrow dd
        rw [hm] at hh
        clear hof hv9 hw9 hm hrow hrr
        go_wp2_with fail
        refine hh.mono ?_
        rintro e w11 ⟨rfl, hB11⟩
        go_wp2_with fail
        go_roundg (4 - i)
        case rel => exact ⟨i + 1, by simp, by have := HG.out; have := HI.out; omega, hB10r.trans (hB11.mono hB10r.size)⟩
        case measure => have := HG.out; have := HI.out; omega
      · have hiI : ¬ (i : Int) < 4 := by omega
        go_wp2_with fail
        go_ret
        exact ⟨rfl, hB7.trans (hBr.mono hB7.size)⟩
  · rcases H2.out with he2 | ⟨rfl, hmm⟩
    · clear H1 H2 hv
      refine wp_region_held_drew (S := fun w' => (∀ o, w'.cell? ⟨w2.heap.size, o, none⟩ = #[Value.int .i64 0, Value.int .i64 0][o]?) ∧ (∀ o, w'.cell? ⟨w.heap.size, o, none⟩ = #[Value.bool neg, Value.string ds, Value.int .i64 sc][o]?) ∧ (∀ o, w'.cell? ⟨w4.heap.size, o, none⟩ = #[Value.bool n2, Value.string d2, Value.int .i64 k2][o]?) ∧ Below w5.heap.size w5 w') (by kernel_rfl) (hS.drew.three) (fun hHeld => ?_)
      refine wpAnyH_take (i := 0) (v := ?_) rfl (by kernel_rfl) (by kernel_rfl) (by kernel_rfl) (fun _ _ _ h => h) (Or.inl ⟨by rfl, ?_⟩) hHeld ?_
      rotate_left
      · intro w hSw; (try dsimp only at hSw); first | (go_simp; done) | (go_simp; with_reducible rfl)
      try simp only [Act.put, List.setIfInBounds_toArray, List.set_cons_zero, List.set_cons_succ, List.getElem_toArray, List.getElem_cons_zero, List.getElem_cons_succ]
      refine wpAnyH_take (i := 1) (v := ?_) rfl (by kernel_rfl) (by kernel_rfl) (by kernel_rfl) (fun _ _ _ h => h) (Or.inl ⟨by rfl, ?_⟩) hHeld ?_
      rotate_left
      · intro w hSw; (try dsimp only at hSw); first | (go_simp; done) | (go_simp; with_reducible rfl)
      try simp only [Act.put, List.setIfInBounds_toArray, List.set_cons_zero, List.set_cons_succ, List.getElem_toArray, List.getElem_cons_zero, List.getElem_cons_succ]
      refine wpAnyH_take (i := 2) (v := ?_) rfl (by kernel_rfl) (by kernel_rfl) (by kernel_rfl) (fun _ _ _ h => h) (Or.inl ⟨by rfl, ?_⟩) hHeld ?_
      rotate_left
      · intro w hSw; (try dsimp only at hSw); first | (go_simp; done) | (go_simp; with_reducible rfl)
      try simp only [Act.put, List.setIfInBounds_toArray, List.set_cons_zero, List.set_cons_succ, List.getElem_toArray, List.getElem_cons_zero, List.getElem_cons_succ]
      refine wpAnyH_take (i := 3) (v := ?_) rfl (by kernel_rfl) (by kernel_rfl) (by kernel_rfl) (fun _ _ _ h => h) (Or.inl ⟨by rfl, ?_⟩) hHeld ?_
      rotate_left
      · intro w hSw; (try dsimp only at hSw); first | (go_simp; done) | (go_simp; with_reducible rfl)
      try simp only [Act.put, List.setIfInBounds_toArray, List.set_cons_zero, List.set_cons_succ, List.getElem_toArray, List.getElem_cons_zero, List.getElem_cons_succ]
      refine wpAnyH_take (i := 4) (v := ?_) rfl (by kernel_rfl) (by kernel_rfl) (by kernel_rfl) (fun _ _ _ h => h) (Or.inl ⟨by rfl, ?_⟩) hHeld ?_
      rotate_left
      · intro w hSw; (try dsimp only at hSw); first | (go_simp; done) | (go_simp; with_reducible rfl)
      try simp only [Act.put, List.setIfInBounds_toArray, List.set_cons_zero, List.set_cons_succ, List.getElem_toArray, List.getElem_cons_zero, List.getElem_cons_succ]
      refine wpAnyH_take (i := 5) (v := ?_) rfl (by kernel_rfl) (by kernel_rfl) (by kernel_rfl) (fun _ _ _ h => h) (Or.inl ⟨by rfl, ?_⟩) hHeld ?_
      rotate_left
      · intro w hSw; (try dsimp only at hSw); first | (go_simp; done) | (go_simp; with_reducible rfl)
      try simp only [Act.put, List.setIfInBounds_toArray, List.set_cons_zero, List.set_cons_succ, List.getElem_toArray, List.getElem_cons_zero, List.getElem_cons_succ]
      refine wpAnyH_take (i := 6) (v := ?_) rfl (by kernel_rfl) (by kernel_rfl) (by kernel_rfl) (fun _ _ _ h => h) (Or.inl ⟨by rfl, ?_⟩) hHeld ?_
      rotate_left
      · intro w hSw; (try dsimp only at hSw); first | (go_simp; done) | (go_simp; with_reducible rfl)
      try simp only [Act.put, List.setIfInBounds_toArray, List.set_cons_zero, List.set_cons_succ, List.getElem_toArray, List.getElem_cons_zero, List.getElem_cons_succ]
      refine wpAnyH_take (i := 7) (v := ?_) rfl (by kernel_rfl) (by kernel_rfl) (by kernel_rfl) (fun _ _ _ h => h) (Or.inl ⟨by rfl, ?_⟩) hHeld ?_
      rotate_left
      · intro w hSw; (try dsimp only at hSw); first | (go_simp; done) | (go_simp; with_reducible rfl)
      try simp only [Act.put, List.setIfInBounds_toArray, List.set_cons_zero, List.set_cons_succ, List.getElem_toArray, List.getElem_cons_zero, List.getElem_cons_succ]
      refine wpAnyH_take (i := 8) (v := undef) rfl (by kernel_rfl) (by kernel_rfl) (by kernel_rfl) (fun _ _ _ h => h) (Or.inr ⟨by rfl, rfl⟩) hHeld ?_
      try simp only [Act.put, List.setIfInBounds_toArray, List.set_cons_zero, List.set_cons_succ, List.getElem_toArray, List.getElem_cons_zero, List.getElem_cons_succ]
      refine wpAnyH_take (i := 9) (v := undef) rfl (by kernel_rfl) (by kernel_rfl) (by kernel_rfl) (fun _ _ _ h => h) (Or.inr ⟨by rfl, rfl⟩) hHeld ?_
      try simp only [Act.put, List.setIfInBounds_toArray, List.set_cons_zero, List.set_cons_succ, List.getElem_toArray, List.getElem_cons_zero, List.getElem_cons_succ]
      refine wpAnyH_take (i := 11) (v := undef) rfl (by kernel_rfl) (by kernel_rfl) (by kernel_rfl) (fun _ _ _ h => h) (Or.inr ⟨by rfl, rfl⟩) hHeld ?_
      try simp only [Act.put, List.setIfInBounds_toArray, List.set_cons_zero, List.set_cons_succ, List.getElem_toArray, List.getElem_cons_zero, List.getElem_cons_succ]
      refine wpAnyH_take (i := 12) (v := undef) rfl (by kernel_rfl) (by kernel_rfl) (by kernel_rfl) (fun _ _ _ h => h) (Or.inr ⟨by rfl, rfl⟩) hHeld ?_
      try simp only [Act.put, List.setIfInBounds_toArray, List.set_cons_zero, List.set_cons_succ, List.getElem_toArray, List.getElem_cons_zero, List.getElem_cons_succ]
      refine wpAnyH_take (i := 10) (v := undef) rfl (by kernel_rfl) (by kernel_rfl) (by kernel_rfl) (fun _ _ _ h => h) (Or.inr ⟨by rfl, rfl⟩) hHeld ?_
      try simp only [Act.put, List.setIfInBounds_toArray, List.set_cons_zero, List.set_cons_succ, List.getElem_toArray, List.getElem_cons_zero, List.getElem_cons_succ]
      refine wpAnyH_take (i := 13) (v := undef) rfl (by kernel_rfl) (by kernel_rfl) (by kernel_rfl) (fun _ _ _ h => h) (Or.inr ⟨by rfl, rfl⟩) hHeld ?_
      try simp only [Act.put, List.setIfInBounds_toArray, List.set_cons_zero, List.set_cons_succ, List.getElem_toArray, List.getElem_cons_zero, List.getElem_cons_succ]
      refine wpAnyH_take (i := 14) (v := undef) rfl (by kernel_rfl) (by kernel_rfl) (by kernel_rfl) (fun _ _ _ h => h) (Or.inr ⟨by rfl, rfl⟩) hHeld ?_
      try simp only [Act.put, List.setIfInBounds_toArray, List.set_cons_zero, List.set_cons_succ, List.getElem_toArray, List.getElem_cons_zero, List.getElem_cons_succ]
      refine wpAnyH_take (i := 15) (v := ?_) rfl (by kernel_rfl) (by kernel_rfl) (by kernel_rfl) (fun _ _ _ h => h) (Or.inl ⟨by rfl, ?_⟩) hHeld ?_
      rotate_left
      · intro w hSw; (try dsimp only at hSw); first | (go_simp; done) | (go_simp; with_reducible rfl)
      try simp only [Act.put, List.setIfInBounds_toArray, List.set_cons_zero, List.set_cons_succ, List.getElem_toArray, List.getElem_cons_zero, List.getElem_cons_succ]
      refine wpAnyH_done (by kernel_rfl) ?_ _
      have hE := (Below.refl w5.heap.size w5).drew
      clear hS
      generalize w5.drew = w6 at *
      have hB6 := hB5.trans (hE.mono hB5.size)
      have hw6 := hw5.on hE
      have hA7 := (Below.refl w6.heap.size w6).alloc (Nat.le_refl _) (.cells #[.string ⟨#[102]⟩, .string ⟨#[116]⟩, .string ⟨#[118]⟩, .string ⟨#[119]⟩] 9)
      have kL := Blk.new w6 #[.string ⟨#[102]⟩, .string ⟨#[116]⟩, .string ⟨#[118]⟩, .string ⟨#[119]⟩] 9
      have hB7 := hB6.trans (hA7.mono hB6.size)
      have hw7 := hw6.on hA7
      clear hE hB6 hw6 hA7 hw5 hB5
      go_wp2_with fail
      generalize w6.alloc (.cells #[.string ⟨#[102]⟩, .string ⟨#[116]⟩, .string ⟨#[118]⟩, .string ⟨#[119]⟩] 9) = w7 at *
      go_loopg [45] 5 (fun g s45 wr => ∃ i : Nat, s45 = .int .i64 (i : Int) ∧ g + i = 5 ∧ Below w7.heap.size w7 wr)
      case atStart => exact ⟨0, rfl, rfl, Below.refl _ _⟩
      case round =>
        obtain ⟨i, rfl, hg, hBr⟩ := hrel
        have HG := Lib.hid hg
        by_cases hi : i < 4
        · obtain ⟨o, ho, hc⟩ := letter_at i hi
          have hiI : (i : Int) < 4 := by omega
          have hi0 : (0 : Int) ≤ i := by omega
          have hiw : IntKind.i64.wrap ((i : Int) + 1) = (i : Int) + 1 := IntWalk.i64_in _ (by omega)
          have hcell : wr.cell? ⟨w6.heap.size, i, none⟩ = some (.string ⟨#[o]⟩) := by rw [(kL.on hBr).cell]; exact hc
          have hpo := sg_parse ho wr (hw7.on hBr).pg
          rw [← sg_join ho] at hpo
          have hXz : ¬ 9223372036854775807 < (⟨#[o]⟩ : ByteArray).size + 4 := by show ¬ 9223372036854775807 < 1 + 4; decide
          have hBw := hB7.trans (hBr.mono hB7.size)
          have hw8 := hw7.on hBr
          have HI := Lib.hid hi
          clear ho hc hi hg
          obtain ⟨X, hX⟩ : ∃ X : ByteArray, ⟨#[o]⟩ = X := ⟨_, rfl⟩
          rw [hX] at hcell hpo hXz
          clear hX
          go_wp2_with fail
          refine hpo.mono ?_
          rintro e w8 ⟨⟨v, rows, rfl, hv, hrow⟩, hB8⟩
          have hA8 := (Below.refl w8.heap.size w8).alloc (Nat.le_refl _) (.cells #[.int .i64 0, .int .i64 0] 53)
          have hB8r := hBr.trans (hB8.mono hBr.size)
          have hB9 := hB8r.trans (hA8.mono hB8r.size)
          have hv9 := hv.on hA8
          have hw9 := hw7.on hB9
          have hof := of_any n HN1.out HN2.out _ hw9.pg
          obtain ⟨vb, vf, rfl, hvk⟩ := id hv
          clear hpo hv hvk hA8 hB8 hw8 hBw
          go_wp2_with fail
          generalize w8.alloc (.cells #[.int .i64 0, .int .i64 0] 53) = w9 at *
          refine hof.mono ?_
          rintro e w10 ⟨⟨ng, dd, hrr, rfl⟩, hB10⟩
          have hB10r := hB9.trans (hB10.mono hB9.size)
          have hh := holds_any ng dd 0 _ _ rows w10 (hv9.on hB10) (hw9.on hB10).pg
          have hm : metB ng dd 0 rows = true := by
            unfold metB
            rw [hrr]
            exact hrow dd
          rw [hm] at hh
          clear hof hv9 hw9 hm hrow hrr
          go_wp2_with fail
          refine hh.mono ?_
          rintro e w11 ⟨rfl, hB11⟩
          go_wp2_with fail
          go_roundg (4 - i)
          case rel => exact ⟨i + 1, by simp, by have := HG.out; have := HI.out; omega, hB10r.trans (hB11.mono hB10r.size)⟩
          case measure => have := HG.out; have := HI.out; omega
        · have hiI : ¬ (i : Int) < 4 := by omega
          go_wp2_with fail
          go_ret
          exact ⟨rfl, hB7.trans (hBr.mono hB7.size)⟩
    · have hh1 := fun (W : World) (h : Below w5.heap.size w5 W) => holds_any neg ds sc v1 t rows W (hv.on h) (hw5.on h).pg
      have hh2 := fun (W : World) (h : Below w5.heap.size w5 W) => holds_any n2 d2 k2 v1 t rows W (hv.on h) (hw5.on h).pg
      simp only [hmm] at hh2
      generalize metB neg ds sc rows = H at *
      have hHH : (H != H) = false := by cases H <;> rfl
      obtain ⟨vb, vf, rfl, hvk⟩ := id hv
      clear H1 H2 hv hmm hvk
      refine wp_region_held_drew (S := fun w' => (∀ o, w'.cell? ⟨w2.heap.size, o, none⟩ = #[Value.int .i64 0, Value.int .i64 0][o]?) ∧ (∀ o, w'.cell? ⟨w.heap.size, o, none⟩ = #[Value.bool neg, Value.string ds, Value.int .i64 sc][o]?) ∧ (∀ o, w'.cell? ⟨w4.heap.size, o, none⟩ = #[Value.bool n2, Value.string d2, Value.int .i64 k2][o]?) ∧ Below w5.heap.size w5 w') (by kernel_rfl) (hS.drew.three) (fun hHeld => ?_)
      refine wpAnyH_take (i := 0) (v := ?_) rfl (by kernel_rfl) (by kernel_rfl) (by kernel_rfl) (fun _ _ _ h => h) (Or.inl ⟨by rfl, ?_⟩) hHeld ?_
      rotate_left
      · intro w hSw; (try dsimp only at hSw); first | (go_simp; done) | (go_simp; with_reducible rfl)
      try simp only [Act.put, List.setIfInBounds_toArray, List.set_cons_zero, List.set_cons_succ, List.getElem_toArray, List.getElem_cons_zero, List.getElem_cons_succ]
      refine wpAnyH_take (i := 1) (v := ?_) rfl (by kernel_rfl) (by kernel_rfl) (by kernel_rfl) (fun _ _ _ h => h) (Or.inl ⟨by rfl, ?_⟩) hHeld ?_
      rotate_left
      · intro w hSw; (try dsimp only at hSw); first | (go_simp; done) | (go_simp; with_reducible rfl)
      try simp only [Act.put, List.setIfInBounds_toArray, List.set_cons_zero, List.set_cons_succ, List.getElem_toArray, List.getElem_cons_zero, List.getElem_cons_succ]
      refine wpAnyH_take (i := 2) (v := ?_) rfl (by kernel_rfl) (by kernel_rfl) (by kernel_rfl) (fun _ _ _ h => h) (Or.inl ⟨by rfl, ?_⟩) hHeld ?_
      rotate_left
      · intro w hSw; (try dsimp only at hSw); first | (go_simp; done) | (go_simp; with_reducible rfl)
      try simp only [Act.put, List.setIfInBounds_toArray, List.set_cons_zero, List.set_cons_succ, List.getElem_toArray, List.getElem_cons_zero, List.getElem_cons_succ]
      refine wpAnyH_take (i := 3) (v := ?_) rfl (by kernel_rfl) (by kernel_rfl) (by kernel_rfl) (fun _ _ _ h => h) (Or.inl ⟨by rfl, ?_⟩) hHeld ?_
      rotate_left
      · intro w hSw; (try dsimp only at hSw); first | (go_simp; done) | (go_simp; with_reducible rfl)
      try simp only [Act.put, List.setIfInBounds_toArray, List.set_cons_zero, List.set_cons_succ, List.getElem_toArray, List.getElem_cons_zero, List.getElem_cons_succ]
      refine wpAnyH_take (i := 4) (v := ?_) rfl (by kernel_rfl) (by kernel_rfl) (by kernel_rfl) (fun _ _ _ h => h) (Or.inl ⟨by rfl, ?_⟩) hHeld ?_
      rotate_left
      · intro w hSw; (try dsimp only at hSw); first | (go_simp; done) | (go_simp; with_reducible rfl)
      try simp only [Act.put, List.setIfInBounds_toArray, List.set_cons_zero, List.set_cons_succ, List.getElem_toArray, List.getElem_cons_zero, List.getElem_cons_succ]
      refine wpAnyH_take (i := 5) (v := ?_) rfl (by kernel_rfl) (by kernel_rfl) (by kernel_rfl) (fun _ _ _ h => h) (Or.inl ⟨by rfl, ?_⟩) hHeld ?_
      rotate_left
      · intro w hSw; (try dsimp only at hSw); first | (go_simp; done) | (go_simp; with_reducible rfl)
      try simp only [Act.put, List.setIfInBounds_toArray, List.set_cons_zero, List.set_cons_succ, List.getElem_toArray, List.getElem_cons_zero, List.getElem_cons_succ]
      refine wpAnyH_take (i := 6) (v := ?_) rfl (by kernel_rfl) (by kernel_rfl) (by kernel_rfl) (fun _ _ _ h => h) (Or.inl ⟨by rfl, ?_⟩) hHeld ?_
      rotate_left
      · intro w hSw; (try dsimp only at hSw); first | (go_simp; done) | (go_simp; with_reducible rfl)
      try simp only [Act.put, List.setIfInBounds_toArray, List.set_cons_zero, List.set_cons_succ, List.getElem_toArray, List.getElem_cons_zero, List.getElem_cons_succ]
      refine wpAnyH_take (i := 7) (v := ?_) rfl (by kernel_rfl) (by kernel_rfl) (by kernel_rfl) (fun _ _ _ h => h) (Or.inl ⟨by rfl, ?_⟩) hHeld ?_
      rotate_left
      · intro w hSw; (try dsimp only at hSw); first | (go_simp; done) | (go_simp; with_reducible rfl)
      try simp only [Act.put, List.setIfInBounds_toArray, List.set_cons_zero, List.set_cons_succ, List.getElem_toArray, List.getElem_cons_zero, List.getElem_cons_succ]
      refine wpAnyH_take (i := 8) (v := ?_) rfl (by kernel_rfl) (by kernel_rfl) (by kernel_rfl) (fun _ _ _ h => h) (Or.inl ⟨by rfl, ?_⟩) hHeld ?_
      rotate_left
      · intro w hSw; (try dsimp only at hSw); first | (go_simp; done) | (go_simp; with_reducible rfl)
      try simp only [Act.put, List.setIfInBounds_toArray, List.set_cons_zero, List.set_cons_succ, List.getElem_toArray, List.getElem_cons_zero, List.getElem_cons_succ]
      refine wpAnyH_take (i := 9) (v := ?_) rfl (by kernel_rfl) (by kernel_rfl) (by kernel_rfl) (fun _ _ _ h => h) (Or.inl ⟨by rfl, ?_⟩) hHeld ?_
      rotate_left
      · intro w hSw; (try dsimp only at hSw); first | (go_simp; done) | (go_simp; with_reducible rfl)
      try simp only [Act.put, List.setIfInBounds_toArray, List.set_cons_zero, List.set_cons_succ, List.getElem_toArray, List.getElem_cons_zero, List.getElem_cons_succ]
      refine wpAnyH_take (i := 11) (v := ?_) rfl (by kernel_rfl) (by kernel_rfl) (by kernel_rfl) (fun _ _ _ h => h) (Or.inl ⟨by rfl, ?_⟩) hHeld ?_
      rotate_left
      · intro w hSw; (try dsimp only at hSw); first | (go_simp; done) | (go_simp; with_reducible rfl)
      try simp only [Act.put, List.setIfInBounds_toArray, List.set_cons_zero, List.set_cons_succ, List.getElem_toArray, List.getElem_cons_zero, List.getElem_cons_succ]
      refine wpAnyH_take (i := 12) (v := ?_) rfl (by kernel_rfl) (by kernel_rfl) (by kernel_rfl) (fun _ _ _ h => h) (Or.inl ⟨by rfl, ?_⟩) hHeld ?_
      rotate_left
      · intro w hSw; (try dsimp only at hSw); first | (go_simp; done) | (go_simp; with_reducible rfl)
      try simp only [Act.put, List.setIfInBounds_toArray, List.set_cons_zero, List.set_cons_succ, List.getElem_toArray, List.getElem_cons_zero, List.getElem_cons_succ]
      refine wpAnyH_ready (rs := [10]) (by kernel_rfl) (by simp) ?_
      refine AllReadyH.cons rfl (fun K hK => ?_) AllReadyH.nil
      go_simp
      go_wp2_with (go_at_call 17; refine (hold3_call (hh1 _ hS.drew.2.2.2) hS.drew).mono ?_; rintro e wx ⟨rfl, hS3⟩)
      refine hK.out _ _ (hS3.three) (fun hHeld => ?_)
      clear hK K
      refine wpAnyH_ready (rs := [13]) (by kernel_rfl) (by simp) ?_
      refine AllReadyH.cons rfl (fun K hK => ?_) AllReadyH.nil
      go_simp
      go_wp2_with (go_at_call 17; refine (hold3_call (hh2 _ hS3.2.2.2) hS3).mono ?_; rintro e wx ⟨rfl, hS3⟩)
      refine hK.out _ _ (hS3.three) (fun hHeld => ?_)
      clear hK K
      refine wpAnyH_take (i := 14) (v := ?_) rfl (by kernel_rfl) (by kernel_rfl) (by kernel_rfl) (fun _ _ _ h => h) (Or.inl ⟨by rfl, ?_⟩) hHeld ?_
      rotate_left
      · intro w hSw; (try dsimp only at hSw); first | (go_simp; done) | (go_simp; with_reducible rfl)
      try simp only [Act.put, List.setIfInBounds_toArray, List.set_cons_zero, List.set_cons_succ, List.getElem_toArray, List.getElem_cons_zero, List.getElem_cons_succ]
      refine wpAnyH_take (i := 15) (v := ?_) rfl (by kernel_rfl) (by kernel_rfl) (by kernel_rfl) (fun _ _ _ h => h) (Or.inl ⟨by rfl, ?_⟩) hHeld ?_
      rotate_left
      · intro w hSw; (try dsimp only at hSw); first | (go_simp; done) | (go_simp; with_reducible rfl)
      try simp only [Act.put, List.setIfInBounds_toArray, List.set_cons_zero, List.set_cons_succ, List.getElem_toArray, List.getElem_cons_zero, List.getElem_cons_succ]
      refine wpAnyH_done (by kernel_rfl) ?_ _
      have hE := hS3.2.2.2
      clear hS hS3 hh1 hh2
      generalize wx = w6 at *
      have hB6 := hB5.trans (hE.mono hB5.size)
      have hw6 := hw5.on hE
      have hA7 := (Below.refl w6.heap.size w6).alloc (Nat.le_refl _) (.cells #[.string ⟨#[102]⟩, .string ⟨#[116]⟩, .string ⟨#[118]⟩, .string ⟨#[119]⟩] 9)
      have kL := Blk.new w6 #[.string ⟨#[102]⟩, .string ⟨#[116]⟩, .string ⟨#[118]⟩, .string ⟨#[119]⟩] 9
      have hB7 := hB6.trans (hA7.mono hB6.size)
      have hw7 := hw6.on hA7
      clear hE hB6 hw6 hA7 hw5 hB5
      go_wp2_with fail
      generalize w6.alloc (.cells #[.string ⟨#[102]⟩, .string ⟨#[116]⟩, .string ⟨#[118]⟩, .string ⟨#[119]⟩] 9) = w7 at *
      go_loopg [45] 5 (fun g s45 wr => ∃ i : Nat, s45 = .int .i64 (i : Int) ∧ g + i = 5 ∧ Below w7.heap.size w7 wr)
      case atStart => exact ⟨0, rfl, rfl, Below.refl _ _⟩
      case round =>
        obtain ⟨i, rfl, hg, hBr⟩ := hrel
        have HG := Lib.hid hg
        by_cases hi : i < 4
        · obtain ⟨o, ho, hc⟩ := letter_at i hi
          have hiI : (i : Int) < 4 := by omega
          have hi0 : (0 : Int) ≤ i := by omega
          have hiw : IntKind.i64.wrap ((i : Int) + 1) = (i : Int) + 1 := IntWalk.i64_in _ (by omega)
          have hcell : wr.cell? ⟨w6.heap.size, i, none⟩ = some (.string ⟨#[o]⟩) := by rw [(kL.on hBr).cell]; exact hc
          have hpo := sg_parse ho wr (hw7.on hBr).pg
          rw [← sg_join ho] at hpo
          have hXz : ¬ 9223372036854775807 < (⟨#[o]⟩ : ByteArray).size + 4 := by show ¬ 9223372036854775807 < 1 + 4; decide
          have hBw := hB7.trans (hBr.mono hB7.size)
          have hw8 := hw7.on hBr
          have HI := Lib.hid hi
          clear ho hc hi hg
          obtain ⟨X, hX⟩ : ∃ X : ByteArray, ⟨#[o]⟩ = X := ⟨_, rfl⟩
          rw [hX] at hcell hpo hXz
          clear hX
          go_wp2_with fail
          refine hpo.mono ?_
          rintro e w8 ⟨⟨v, rows, rfl, hv, hrow⟩, hB8⟩
          have hA8 := (Below.refl w8.heap.size w8).alloc (Nat.le_refl _) (.cells #[.int .i64 0, .int .i64 0] 53)
          have hB8r := hBr.trans (hB8.mono hBr.size)
          have hB9 := hB8r.trans (hA8.mono hB8r.size)
          have hv9 := hv.on hA8
          have hw9 := hw7.on hB9
          have hof := of_any n HN1.out HN2.out _ hw9.pg
          obtain ⟨vb, vf, rfl, hvk⟩ := id hv
          clear hpo hv hvk hA8 hB8 hw8 hBw
          go_wp2_with fail
          generalize w8.alloc (.cells #[.int .i64 0, .int .i64 0] 53) = w9 at *
          refine hof.mono ?_
          rintro e w10 ⟨⟨ng, dd, hrr, rfl⟩, hB10⟩
          have hB10r := hB9.trans (hB10.mono hB9.size)
          have hh := holds_any ng dd 0 _ _ rows w10 (hv9.on hB10) (hw9.on hB10).pg
          have hm : metB ng dd 0 rows = true := by
            unfold metB
            rw [hrr]
            exact hrow dd
          rw [hm] at hh
          clear hof hv9 hw9 hm hrow hrr
          go_wp2_with fail
          refine hh.mono ?_
          rintro e w11 ⟨rfl, hB11⟩
          go_wp2_with fail
          go_roundg (4 - i)
          case rel => exact ⟨i + 1, by simp, by have := HG.out; have := HI.out; omega, hB10r.trans (hB11.mono hB10r.size)⟩
          case measure => have := HG.out; have := HI.out; omega
        · have hiI : ¬ (i : Int) < 4 := by omega
          go_wp2_with fail
          go_ret
          exact ⟨rfl, hB7.trans (hBr.mono hB7.size)⟩
end Go.Proofs.YtgbemhehbhlgpaaGreatDoor
