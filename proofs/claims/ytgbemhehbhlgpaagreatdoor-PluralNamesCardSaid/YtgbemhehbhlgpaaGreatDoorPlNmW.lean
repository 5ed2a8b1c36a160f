/-
  PluralNames: the six categories are told in their order, and no other text is one; rules and sets that are not there hold for nothing: the walk of the law.
-/
import Derived.Test.YtgbemhehbhlgpaaGreatDoorPlNd
import Derived.Test.YtgbemhehbhlgpaaGreatDoorPlBackW
namespace Go.Proofs.YtgbemhehbhlgpaaGreatDoor
open Go.RowKit Go.Shelf Go.PlainAid
attribute [local go_sem] Oper.semAt_some

/-- A function that leaves with nothing but marks among its deferred calls. -/
theorem leaves_marks {F : Fence} {n : Nat} {P : Program} {fn : Func} {tmps : Array Value} {R : Ending → World → Prop} {w0 : World} :
    ∀ (Ds : List Nat) (w : World), (∀ D ∈ Ds, w0.heap.size ≤ D ∧ w.heap[D]? = some (.deferred (some []))) → Ds.Nodup →
      (∀ w', Below w0.heap.size w w' → (∀ k, k ∉ Ds → w'.heap[k]? = w.heap[k]?) → LeavesIn F n P fn tmps R [] .returning w') →
      LeavesInM F n P fn tmps R (Ds.map fun D => { target := .collected D, args := #[] }) .returning w
  | [], w, _, _, h => h w (Below.refl _ _) (fun _ _ => rfl)
  | D :: Ds, w, hD, hN, h => by
    obtain ⟨hlt, hd⟩ := hD D (by simp)
    have hn := List.nodup_cons.1 hN
    have hb1 : Below w0.heap.size w (w.putObj D (.deferred none)) := belowK_b (w := w0) (Nat.le_refl _) w D _ _ hlt hd rfl rfl
    refine ⟨by simp, .inl ⟨_, _, rfl, run_takeDeferred hd, leaves_marks Ds _ (fun E hE => ⟨(hD E (by simp [hE])).1, ?_⟩) hn.2 (fun w' hb hk => h w' (hb1.trans hb) (fun k hk' => ?_))⟩⟩
    · rw [World.putObj_heap_other (by rintro rfl; exact hn.1 hE)]
      exact (hD E (by simp [hE])).2
    · rw [hk k (fun h' => hk' (by simp [h'])), World.putObj_heap_other (by rintro rfl; exact hk' (by simp))]
theorem six_name (i : Nat) (h : i < six.length) : six[i] = nameB (i : Int) := by
  have : ∀ i : Fin 6, six[i.val]? = some (nameB (i.val : Int)) := by decide +kernel
  have h2 := this ⟨i, h⟩
  rw [List.getElem?_eq_getElem h] at h2
  exact Option.some.inj h2
theorem is_place (s : ByteArray) : (Lib.containsS six s = true ∧ decide (0 ≤ plcB s) = true) ∨ (Lib.containsS six s = false ∧ decide (0 ≤ plcB s) = false) := by
  have hp : ∀ f i, (0 ≤ plcF s f i) ↔ ∃ k, i ≤ k ∧ k < i + f ∧ nameB (k : Int) = s := by
    intro f
    induction f with
    | zero =>
      intro i
      constructor
      · intro h
        exact absurd h (by show ¬ (0 : Int) ≤ -1; decide)
      · rintro ⟨k, h1, h2, _⟩
        omega
    | succ f ih =>
      intro i
      unfold plcF
      by_cases h : nameB (i : Int) = s
      · rw [if_pos h]
        exact ⟨fun _ => ⟨i, Nat.le_refl _, by omega, h⟩, fun _ => by omega⟩
      · rw [if_neg h, ih (i + 1)]
        constructor
        · rintro ⟨k, h1, h2, h3⟩
          exact ⟨k, by omega, by omega, h3⟩
        · rintro ⟨k, h1, h2, h3⟩
          refine ⟨k, ?_, by omega, h3⟩
          rcases Nat.eq_or_lt_of_le h1 with rfl | h4
          · exact absurd h3 h
          · exact h4
  have hm : s ∈ six ↔ 0 ≤ plcB s := by
    unfold plcB
    rw [hp 6 0]
    constructor
    · intro h
      obtain ⟨i, hi, he⟩ := List.getElem_of_mem h
      exact ⟨i, Nat.zero_le _, by have : six.length = 6 := rfl; omega, by rw [← six_name i hi]; exact he⟩
    · rintro ⟨k, _, h2, h3⟩
      have hk : k < six.length := by show k < 6; omega
      rw [← h3, ← six_name k hk]
      exact List.getElem_mem hk
  cases hc : Lib.containsS six s with
  | true => exact .inl ⟨rfl, decide_eq_true (hm.1 ((Lib.containsS_iff six s).1 hc))⟩
  | false => exact .inr ⟨rfl, decide_eq_false fun h => by rw [(Lib.containsS_iff six s).2 (hm.2 h)] at hc; cases hc⟩
theorem cats_not_nil (b : Nat) (W : World) : (binOp .eql 26 (.func (.func 51) #[] #[.pointer (some ⟨b, 0, none⟩)]) Value.nilFunc).run Tryz.prog W = .ok (.bool false) W := by
  rw [show binOp .eql 26 (.func (.func 51) #[] #[.pointer (some ⟨b, 0, none⟩)]) Value.nilFunc = (do pure (.bool (← Op.equalIn (9999 + 1) 26 (.func (.func 51) #[] #[.pointer (some ⟨b, 0, none⟩)]) Value.nilFunc))) from rfl]
  rw [Op.equalIn]
  simp [go_sem]

set_option maxRecDepth 100000 in
set_option maxHeartbeats 4000000 in
theorem pluralNames_walk (s : ByteArray) (m : Int) (neg : Bool) (ds : ByteArray) (sc : Int) (w : World) (_ : -9223372036854775808 ≤ m) (_ : m ≤ 9223372036854775807) (_ : s.size ≤ 140737488351232) (hw : PW w) :
    Calls Tryz.prog 3 #[.string s, .int .i64 m, .agg #[.bool neg, .string ds, .int .i64 sc]] w fun e w' => e = .returned (.bool true) ∧ Below w.heap.size w w' := by
  have hA0 := (((Below.refl w.heap.size w).alloc (Nat.le_refl _) (.cells #[.int .i64 m] 3)).alloc (by simp) (.cells #[.bool neg, .string ds, .int .i64 sc] 23)).alloc (by simp; omega) (.cells #[.bool false] 4)
  have b4 := ((Boxed.new w 3 (.int .i64 m)).alloc (.cells #[.bool neg, .string ds, .int .i64 sc] 23)).alloc (.cells #[.bool false] 4)
  have kD := (Blk.new (w.alloc (.cells #[.int .i64 m] 3)) #[.bool neg, .string ds, .int .i64 sc] 23).on ((Below.refl _ _).alloc (Nat.le_refl _) (.cells #[.bool false] 4))
  have b6 := Boxed.new ((w.alloc (.cells #[.int .i64 m] 3)).alloc (.cells #[.bool neg, .string ds, .int .i64 sc] 23)) 4 (.bool false)
  have z0 : (((w.alloc (.cells #[.int .i64 m] 3)).alloc (.cells #[.bool neg, .string ds, .int .i64 sc] 23)).alloc (.cells #[.bool false] 4)).heap.size = w.heap.size + 1 + 1 + 1 := by simp
  rw [World.size_alloc] at kD
  rw [World.size_alloc, World.size_alloc] at b6
  generalize hw0 : ((w.alloc (.cells #[.int .i64 m] 3)).alloc (.cells #[.bool neg, .string ds, .int .i64 sc] 23)).alloc (.cells #[.bool false] 4) = w0 at *
  have HW0 := Lib.hid hw0
  have Z0 := Lib.hid z0
  have hwk := wakes_pw w0 (hw.on hA0)
  clear hw0 z0
  refine (callsIn_wide (n := 3)).1 ?_
  refine callsIn_of_wp_marks Tryz.func3 rfl trivial ?_ rfl
  simp only [Tryz.ntmps3, List.size_toArray, List.length_cons, List.length_nil, Nat.reduceAdd, Nat.reduceSub, Array.replicate_succ, Array.replicate_zero, List.push_toArray, List.append_toArray, List.nil_append, List.cons_append]
  gi_wp2_with fail
  rw [HW0.out]
  refine ⟨trivial, ?_⟩
  refine (callsIn_wide.2 hwk).mono ?_
  rintro e w1 ⟨rfl, hB1⟩
  have b4 := boxed_on b4 hB1
  have b6 := boxed_on b6 hB1
  have kD := kD.on hB1
  have hA1 := hA0.trans (hB1.mono hA0.size)
  have Z1 := Lib.hid (show w.heap.size + 3 ≤ w1.heap.size by have := hB1.size; have := Z0.out; omega)
  have hca := cats_any w1 (hw w1 hA1).2
  clear hwk hB1 hA0
  gi_wp2_with fail
  refine ⟨trivial, ?_⟩
  refine (callsIn_wide.2 hca).mono ?_
  rintro e w' ⟨rfl, hwc⟩
  have hBc := catW_below w1
  have zc := catW_size w1
  have b4 := boxed_on b4 hBc
  have b6 := boxed_on b6 hBc
  have kD := kD.on hBc
  have hAc := hA1.trans (hBc.mono hA1.size)
  have e1 := cats_not_nil (w1.heap.size + 1)
  have hst := fun W hW Kp hK => cats_stops (3 - 1) (by decide) w1 W hW Kp hK
  subst hwc
  generalize catW w1 = wc at *
  have ZC := Lib.hid zc
  clear hca hBc zc hA1
  gi_wp2_with fail
  have b8 := Boxed.new wc 3 (.int .i64 0)
  have b4 := b4.alloc (.cells #[.int .i64 0] 3)
  have b6 := b6.alloc (.cells #[.int .i64 0] 3)
  have kD := kD.on ((Below.refl _ _).alloc (Nat.le_refl _) (.cells #[.int .i64 0] 3))
  have hA2 := hAc.alloc hAc.size (.cells #[.int .i64 0] 3)
  have z2 : (wc.alloc (.cells #[.int .i64 0] 3)).heap.size = wc.heap.size + 1 := by simp
  have hst := hst (wc.alloc (.cells #[.int .i64 0] 3)) ((Below.refl _ _).alloc (by rw [ZC.out]; exact Nat.le_refl _) _) (KeepX (wc.heap.size + 1) wc.heap.size) (fun A B j h => h.cell (by rw [ZC.out]; omega) (by rw [ZC.out]; omega))
  generalize wc.alloc (.cells #[.int .i64 0] 3) = w2 at *
  have hz1 := Z1.out
  have hzc := ZC.out
  refine rangeFU rfl (by decide) (gf := 51) (lb := #[.pointer (some ⟨w1.heap.size + 1, 0, none⟩)]) rfl trivial (enters_of Tryz.func51 (by kernel_rfl) rfl)
    hst KeepX.trans (keepX_b (by omega)) (Below.refl _ _) (fun _ => rfl)
    (fun pre W => pre <+: six ∧ Boxed W wc.heap.size 3 (.int .i64 (pre.length : Int)) ∧ KeepX (wc.heap.size + 1) wc.heap.size w2 W)
    (fun c pre W => pre <+: six → c = .exit 0 ∧ (pre.length : Int) = m ∧ Boxed W wc.heap.size 3 (.int .i64 (pre.length : Int)) ∧ KeepX (wc.heap.size + 1) wc.heap.size w2 W)
    (OwnFrom.and (ownFrom_pure _ _) (OwnFrom.and (Own.from (boxed_own _ _ _) _) (ownFrom_keepX (by omega) (by omega))))
    (fun c pre A B row hs hg hr hp => ⟨(hs hp).1, (hs hp).2.1, (OwnFrom.and (Own.from (boxed_own _ _ _) _) (ownFrom_keepX (by omega) (by omega)) : OwnFrom w2.heap.size (fun (pre : List ByteArray) W => Boxed W wc.heap.size 3 (.int .i64 (pre.length : Int)) ∧ KeepX (wc.heap.size + 1) wc.heap.size w2 W)) pre A B row (hs hp).2.2 hg hr⟩)
    ⟨List.nil_prefix, b8, KeepX.refl _ _ _⟩
    (fun x t => t.setIfInBounds 9 (.string x)) ?_ ?_ ?_ ?_
  · intro l x W K hK
    clear hz1 hzc z2
    gi_wp2
    simpa using hK
  · rintro l pre x W ⟨hpre, bk, hX⟩ hlt
    have hlt6 : pre.length < six.length := hlt
    have hsn := prefix_snoc (x := x) hpre hlt6
    rw [six_name _ hlt6] at hsn
    have hn := rName_any (pre.length : Int) W
    have hq := bytes_eqb x (nameB (pre.length : Int))
    have bkc := bk.cell
    have bkf := bk.frozen
    have b4W := (hX.boxed b4 (by omega) (by omega)).cell
    have b6W := hX.boxed b6 (by omega) (by omega)
    have b6c := b6W.cell
    have b6f := b6W.frozen
    have b4o := fun u => ((hX.boxed b4 (by omega) (by omega)).other (B' := wc.heap.size) (by omega) u).cell
    have f1 : IntKind.i64.wrap ((pre.length : Int) + 1) = (pre.length : Int) + 1 := IntWalk.i64_in _ (by omega)
    have bk2 := bk.set (.int .i64 ((pre.length : Int) + 1))
    have hX2 := hX.setCell (.int .i64 ((pre.length : Int) + 1))
    have HSN := Lib.hid hsn
    have hl : ((pre ++ [x]).length : Int) = (pre.length : Int) + 1 := by simp
    have HL := Lib.hid hl
    clear hl hsn hpre b4 b6 b8 hz1 hzc z2 hst e1 kD
    by_cases he : x = nameB (pre.length : Int)
    · have HE := Lib.hid he
      rw [decide_eq_true he] at hq
      clear he
      generalize nameB (pre.length : Int) = NM at *
      by_cases hm : (pre.length : Int) + 1 = m
      · gi_wp2_with (refine ⟨trivial, ?_⟩; gi_at_call 13; refine (CallsIn.inRound l (callsIn_wide.2 hn)).mono ?_; rintro e w' ⟨rfl, rfl⟩)
        rw [hm] at bk2 hX2
        exact ⟨KeepsOthers.setCell _ _ _, fun _ => ⟨rfl, HL.out.trans hm, by rw [HL.out, hm]; exact bk2, hX2⟩⟩
      · gi_wp2_with (refine ⟨trivial, ?_⟩; gi_at_call 13; refine (CallsIn.inRound l (callsIn_wide.2 hn)).mono ?_; rintro e w' ⟨rfl, rfl⟩)
        exact ⟨KeepsOthers.setCell _ _ _, (KeepX.refl _ _ W).setCell _, HSN.out.2 HE.out.symm, by rw [HL.out]; exact bk2, hX2⟩
    · have HE := Lib.hid he
      rw [decide_eq_false he] at hq
      clear he
      generalize nameB (pre.length : Int) = NM at *
      gi_wp2_with (refine ⟨trivial, ?_⟩; gi_at_call 13; refine (CallsIn.inRound l (callsIn_wide.2 hn)).mono ?_; rintro e w' ⟨rfl, rfl⟩)
      exact ⟨KeepsOthers.setCell _ _ _, fun hp => absurd (HSN.out.1 hp).symm HE.out⟩
  -- ENDS
  · rintro D ys W hD rfl ⟨_, bk, hX⟩ hK
    rw [show ((six.length : Nat) : Int) = 6 from rfl] at bk
    rcases is_place s with ⟨hR, hP⟩ | ⟨hR, hP⟩
    all_goals
      have hlD := (Array.getElem?_eq_some_iff.1 hK).1
      have hzX := hX.size
      have b4 := hX.boxed b4 (by omega) (by omega)
      have b6 := hX.boxed b6 (by omega) (by omega)
      have kD := kD.later (hX.below (M := wc.heap.size) (by omega) (Nat.le_refl _)) (by omega)
      have hA3 := hA2.trans (hX.below (M := w.heap.size) (by omega) (by omega))
      have hsc := setCats_nil W (fun V hV => (hw V (hA3.trans (hV.mono hA3.size))).2)
      have hbz : w.heap.size + 2 < W.heap.size := by omega
      have hDb : D ≠ w.heap.size + 1 + 1 := by omega
      have hDw : w.heap.size ≤ D := by omega
      clear hz1 hzc hzX z2 hst e1 hX b8 HW0 hA2 hAc
      gi_wp2_with fail
      refine ⟨trivial, ?_⟩
      refine (callsIn_wide.2 hsc).mono ?_
      rintro e w3 ⟨⟨g, cap, rfl, hg, hgl⟩, hB3⟩
      have b4 := boxed_on b4 hB3
      have b6 := boxed_on b6 hB3
      have bk := boxed_on bk hB3
      have kD := kD.on hB3
      have hA4 := hA3.trans (hB3.mono hA3.size)
      have hK := (hB3.block D hlD).trans hK
      have hlD := Nat.lt_of_lt_of_le hlD hB3.size
      have ck := bk.cell
      have c4 := b4.cell
      have cd := kD.cell
      have hie := is_any s w3 (hw w3 hA4).2
      rw [hR] at hie
      clear hsc
      gi_wp2_with fail
      refine ⟨trivial, ?_⟩
      refine (callsIn_wide.2 hie).mono ?_
      rintro e w4 ⟨rfl, hB4⟩
      have b6 := boxed_on b6 hB4
      have kD := kD.on hB4
      have hA5 := hA4.trans (hB4.mono hA4.size)
      have hK := (hB4.block D hlD).trans hK
      have hlD := Nat.lt_of_lt_of_le hlD hB4.size
      have hg := (hB4.cell (p := ⟨g, 0, none⟩) hgl).trans hg
      have hgl := Nat.lt_of_lt_of_le hgl hB4.size
      have cd := kD.cell
      have hpl := rPlace_any s w4
      generalize plcB s = Pl at *
      clear hie ck c4 bk
      gi_wp2_with fail
      refine ⟨trivial, ?_⟩
      refine (callsIn_wide.2 hpl).mono ?_
      rintro e w' ⟨rfl, rfl⟩
      have hho := holds_nil neg ds sc w4
      clear hpl
      gi_wp2_with fail
      refine ⟨trivial, ?_⟩
      refine (callsIn_wide.2 hho).mono ?_
      rintro e w5 ⟨rfl, hB5⟩
      have b6 := boxed_on b6 hB5
      have kD := kD.on hB5
      have hA6 := hA5.trans (hB5.mono hA5.size)
      have hK := (hB5.block D hlD).trans hK
      have hlD := Nat.lt_of_lt_of_le hlD hB5.size
      have hg := (hB5.cell (p := ⟨g, 0, none⟩) hgl).trans hg
      have hgl := Nat.lt_of_lt_of_le hgl hB5.size
      have cd := kD.cell
      have hpr := print_nil w5
      clear hho
      gi_wp2_with fail
      refine ⟨trivial, ?_⟩
      refine (callsIn_wide.2 hpr).mono ?_
      rintro e w' ⟨rfl, rfl⟩
      have hcn := cat_nil neg ds sc w5
      clear hpr
      gi_wp2_with fail
      refine ⟨trivial, ?_⟩
      refine (callsIn_wide.2 hcn).mono ?_
      rintro e w6 ⟨rfl, hB6⟩
      have b6 := boxed_on b6 hB6
      have hA7 := hA6.trans (hB6.mono hA6.size)
      have hK := (hB6.block D hlD).trans hK
      have hg := (hB6.cell (p := ⟨g, 0, none⟩) hgl).trans hg
      have b6c := b6.cell
      have b6f := b6.frozen
      clear hcn cd
      unfold otherB at *
      gi_wp2_with fail
      have ks := KeepsOthers.setCell w6 ⟨w.heap.size + 1 + 1, 0, none⟩ (.bool true)
      have hB' := hA7.setCell (p := ⟨w.heap.size + 1 + 1, 0, none⟩) (show w.heap.size ≤ w.heap.size + 1 + 1 by omega) (.bool true)
      have bT := b6.set (.bool true)
      try rw [hP, Bool.not_false]
      refine leaves_marks (w0 := w) [D] _ (fun E hE => ?_) ?_ (fun w' hb hk => ?_)
      · simp only [List.mem_cons, List.not_mem_nil, or_false] at hE
        subst hE
        exact ⟨hDw, ks.same _ _ hK rfl⟩
      · simp
      · have hc5 : w'.cell? ⟨w.heap.size + 1 + 1, 0, none⟩ = some (.bool true) := by
          have h := hk (w.heap.size + 1 + 1) (by simp only [List.mem_cons, List.not_mem_nil, or_false]; omega)
          exact (World.cell?_of_block h).trans bT.cell
        refine ⟨.bool true, ?_, rfl, hB'.trans hb⟩
        simp [results, Tryz.f3, go_sem, hc5]
  · rintro D c pre W hD hSp hIx hK
    obtain ⟨rfl, hm, bk, hX⟩ := hIx hSp
    rw [hm] at bk
    clear hm hIx hSp
    by_cases h6 : m = 6
    all_goals
      rcases is_place s with ⟨hR, hP⟩ | ⟨hR, hP⟩
      all_goals
        have hlD := (Array.getElem?_eq_some_iff.1 hK).1
        have hzX := hX.size
        have b4 := hX.boxed b4 (by omega) (by omega)
        have b6 := hX.boxed b6 (by omega) (by omega)
        have kD := kD.later (hX.below (M := wc.heap.size) (by omega) (Nat.le_refl _)) (by omega)
        have hA3 := hA2.trans (hX.below (M := w.heap.size) (by omega) (by omega))
        have hsc := setCats_nil W (fun V hV => (hw V (hA3.trans (hV.mono hA3.size))).2)
        have hbz : w.heap.size + 2 < W.heap.size := by omega
        have hDb : D ≠ w.heap.size + 1 + 1 := by omega
        have hDw : w.heap.size ≤ D := by omega
        clear hz1 hzc hzX z2 hst e1 hX b8 HW0 hA2 hAc
        gi_wp2_with fail
        refine ⟨trivial, ?_⟩
        refine (callsIn_wide.2 hsc).mono ?_
        rintro e w3 ⟨⟨g, cap, rfl, hg, hgl⟩, hB3⟩
        have b4 := boxed_on b4 hB3
        have b6 := boxed_on b6 hB3
        have bk := boxed_on bk hB3
        have kD := kD.on hB3
        have hA4 := hA3.trans (hB3.mono hA3.size)
        have hK := (hB3.block D hlD).trans hK
        have hlD := Nat.lt_of_lt_of_le hlD hB3.size
        have ck := bk.cell
        have c4 := b4.cell
        have cd := kD.cell
        have hie := is_any s w3 (hw w3 hA4).2
        rw [hR] at hie
        clear hsc
        gi_wp2_with fail
        refine ⟨trivial, ?_⟩
        refine (callsIn_wide.2 hie).mono ?_
        rintro e w4 ⟨rfl, hB4⟩
        have b6 := boxed_on b6 hB4
        have kD := kD.on hB4
        have hA5 := hA4.trans (hB4.mono hA4.size)
        have hK := (hB4.block D hlD).trans hK
        have hlD := Nat.lt_of_lt_of_le hlD hB4.size
        have hg := (hB4.cell (p := ⟨g, 0, none⟩) hgl).trans hg
        have hgl := Nat.lt_of_lt_of_le hgl hB4.size
        have cd := kD.cell
        have hpl := rPlace_any s w4
        generalize plcB s = Pl at *
        clear hie ck c4 bk
        gi_wp2_with fail
        refine ⟨trivial, ?_⟩
        refine (callsIn_wide.2 hpl).mono ?_
        rintro e w' ⟨rfl, rfl⟩
        have hho := holds_nil neg ds sc w4
        clear hpl
        gi_wp2_with fail
        refine ⟨trivial, ?_⟩
        refine (callsIn_wide.2 hho).mono ?_
        rintro e w5 ⟨rfl, hB5⟩
        have b6 := boxed_on b6 hB5
        have kD := kD.on hB5
        have hA6 := hA5.trans (hB5.mono hA5.size)
        have hK := (hB5.block D hlD).trans hK
        have hlD := Nat.lt_of_lt_of_le hlD hB5.size
        have hg := (hB5.cell (p := ⟨g, 0, none⟩) hgl).trans hg
        have hgl := Nat.lt_of_lt_of_le hgl hB5.size
        have cd := kD.cell
        have hpr := print_nil w5
        clear hho
        gi_wp2_with fail
        refine ⟨trivial, ?_⟩
        refine (callsIn_wide.2 hpr).mono ?_
        rintro e w' ⟨rfl, rfl⟩
        have hcn := cat_nil neg ds sc w5
        clear hpr
        gi_wp2_with fail
        refine ⟨trivial, ?_⟩
        refine (callsIn_wide.2 hcn).mono ?_
        rintro e w6 ⟨rfl, hB6⟩
        have b6 := boxed_on b6 hB6
        have hA7 := hA6.trans (hB6.mono hA6.size)
        have hK := (hB6.block D hlD).trans hK
        have hg := (hB6.cell (p := ⟨g, 0, none⟩) hgl).trans hg
        have b6c := b6.cell
        have b6f := b6.frozen
        clear hcn cd
        unfold otherB at *
        gi_wp2_with fail
        have ks := KeepsOthers.setCell w6 ⟨w.heap.size + 1 + 1, 0, none⟩ (.bool true)
        have hB' := hA7.setCell (p := ⟨w.heap.size + 1 + 1, 0, none⟩) (show w.heap.size ≤ w.heap.size + 1 + 1 by omega) (.bool true)
        have bT := b6.set (.bool true)
        try rw [hP, Bool.not_false]
        refine leaves_marks (w0 := w) [D] _ (fun E hE => ?_) ?_ (fun w' hb hk => ?_)
        · simp only [List.mem_cons, List.not_mem_nil, or_false] at hE
          subst hE
          exact ⟨hDw, ks.same _ _ hK rfl⟩
        · simp
        · have hc5 : w'.cell? ⟨w.heap.size + 1 + 1, 0, none⟩ = some (.bool true) := by
            have h := hk (w.heap.size + 1 + 1) (by simp only [List.mem_cons, List.not_mem_nil, or_false]; omega)
            exact (World.cell?_of_block h).trans bT.cell
          refine ⟨.bool true, ?_, rfl, hB'.trans hb⟩
          simp [results, Tryz.f3, go_sem, hc5]
end Go.Proofs.YtgbemhehbhlgpaaGreatDoor
