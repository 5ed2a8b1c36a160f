/-
  The walk of UtfFields: what stands between blanks, told again and again.
-/
import Derived.Test.YtdihhicjaaekhaaDoorFldI
namespace Go.Proofs.YtdihhicjaaekhaaDoor
open Go.RowKit Go.Shelf Go.PlainAid
attribute [local go_sem] Oper.semAt_some

/-- The law of a range over a function, the temporaries behind the assignment told by what they were. -/
theorem rangeFU {F : Fence} {n : Nat} {P : Program} {α : Type} {g : Operand} {ps : Array Tmp} {assign body : Code} {Q : Exit → Act → World → Prop} {a : Act} {w : World}
    (hro : F.round = none) (h1 : 1 ≤ n) {gf : Nat} {lb : Array Value} (hg : a.eval g = .func (.func gf) #[] lb) (hFg : F.fn gf) (eg : ∀ args w, (callFunc gf args).run P w = .ok (.enter gf args) w)
    {encs : α → Array Value} {Kp : World → World → Prop} {S Sp : List α → Prop} {N : Nat} {w0 : World} (hseq : SeqStopsK F (n - 1) P gf lb encs Kp S Sp N w0)
    (hKt : ∀ {A B C : World}, Kp A B → Kp B C → Kp A C) (hKb : ∀ (W : World) (l : Nat) (o o' : Obj), w.heap.size ≤ l → W.heap[l]? = some o → o.isCells = false → o.isWalk = false → Kp W (W.putObj l o')) (hb0 : Below w0.heap.size w0 w) (hps : ∀ x, (encs x).size = ps.size)
    (I : List α → World → Prop) (Ix : Code → List α → World → Prop) (hI : OwnFrom w.heap.size I) (hIx : ∀ c, OwnFrom w.heap.size (Ix c)) (h0 : I [] w) (upd : α → Array Value → Array Value)
    (hassign : ∀ (l : Nat) (x : α) (W : World) (K : Act → World → Prop), K { tmps := upd x ((ps.zip (encs x)).foldl (fun t (p, v) => t.setIfInBounds p v) a.tmps), defers := [] } W →
      assign.wpIn (F.inRound l) (n - 1 - 1) P (Exit.then K (fun _ _ _ => False)) { tmps := (ps.zip (encs x)).foldl (fun t (p, v) => t.setIfInBounds p v) a.tmps, defers := [] } W)
    (hbody : ∀ (l : Nat) (pre : List α) (x : α) (W : World), I pre W → pre.length < N → body.wpIn (F.inRound l) (n - 1 - 1) P (ownPostK Kp I Ix (pre ++ [x]) W) { tmps := upd x ((ps.zip (encs x)).foldl (fun t (p, v) => t.setIfInBounds p v) a.tmps), defers := [] } W)
    (hdone : ∀ (D : Nat) (xs : List α) (W : World), w.heap.size ≤ D → S xs → I xs W → W.heap[D]? = some (.deferred (some [])) → Q .normal { a with defers := { target := .collected D, args := #[] } :: a.defers } W)
    (hstop : ∀ (D : Nat) (c : Code) (pre : List α) (W : World), w.heap.size ≤ D → Sp pre → Ix c pre W → W.heap[D]? = some (.deferred (some [])) → c.wpIn F n P Q { a with defers := { target := .collected D, args := #[] } :: a.defers } W) :
    (Code.rangeFunc g ps assign body).wpIn F n P Q a w :=
  wpIn_rangeFunc_ownF hro h1 hg hFg eg hseq hKt hKb hb0 hps I Ix hI hIx h0 _ hassign hbody hdone hstop
theorem prefix_snoc {α : Type} {pre xs : List α} {x : α} (h : pre <+: xs) (hl : pre.length < xs.length) : pre ++ [x] <+: xs ↔ xs[pre.length] = x := by
  obtain ⟨r, rfl⟩ := h
  cases r with
  | nil => simp at hl
  | cons y r => simp; exact eq_comm
/-- A function that leaves with nothing but marks among its deferred calls. -/
theorem leaves_marks {F : Fence} {n : Nat} {P : Program} {fn : Func} {tmps : Array Value} {R : Ending → World → Prop} {w0 : World} :
    ∀ (Ds : List Nat) (w : World), (∀ D ∈ Ds, w0.heap.size ≤ D ∧ w.heap[D]? = some (.deferred (some []))) → Ds.Nodup →
      (∀ w', Below w0.heap.size w w' → (∀ k, k ∉ Ds → w'.heap[k]? = w.heap[k]?) → LeavesIn F n P fn tmps R [] .returning w') →
      LeavesInM F n P fn tmps R (Ds.map fun D => { target := .collected D, args := #[] }) .returning w
  | [], w, _, _, h => h w (Below.refl _ _) (fun _ _ => rfl)
  | D :: Ds, w, hD, hN, h => by
    obtain ⟨hlt, hd⟩ := hD D (by simp)
    have hn := List.nodup_cons.1 hN
    have hb1 : Below w0.heap.size w (w.putObj D (.deferred none)) := belowK_b (w := w0) (Nat.le_refl _) w D _ _ hlt hd rfl rfl
    refine ⟨by simp, .inl ⟨_, _, rfl, run_takeDeferred hd, leaves_marks Ds _ (fun E hE => ⟨(hD E (by simp [hE])).1, ?_⟩) hn.2 (fun w' hb hk => h w' (hb1.trans hb) (fun k hk' => ?_))⟩⟩
    · rw [World.putObj_heap_other (by rintro rfl; exact hn.1 hE)]
      exact (hD E (by simp [hE])).2
    · rw [hk k (fun h' => hk' (by simp [h'])), World.putObj_heap_other (by rintro rfl; exact hk' (by simp))]
theorem toList_one {a b : ByteArray} (h : a.toList = b.toList) : a = b := by
  rw [Lib.toList_data, Lib.toList_data] at h
  exact ByteArray.ext (Array.toList_inj.1 h)
theorem boxed_on {W W' : World} {B : Nat} {t : TypeId} {v : Value} (h : Boxed W B t v) (hB : Below W.heap.size W W') : Boxed W' B t v := (hB.block B h.lt).trans h

theorem func_not_nil (b : Nat) (W : World) : (binOp .eql 39 (.func (.func 51) #[] #[.pointer (some ⟨b, 0, none⟩)]) Value.nilFunc).run Tryd.prog W = .ok (.bool false) W := by
  rw [show binOp .eql 39 (.func (.func 51) #[] #[.pointer (some ⟨b, 0, none⟩)]) Value.nilFunc = (do pure (.bool (← Op.equalIn (9999 + 1) 39 (.func (.func 51) #[] #[.pointer (some ⟨b, 0, none⟩)]) Value.nilFunc))) from rfl]
  rw [Op.equalIn]
  simp [go_sem]
theorem FldRow.form {base : Nat} {w : World} {v : Value} {l : List (Int × ByteArray)} (h : FldRow base w v l) : ∃ a cap, v = .slice a l.length cap := by
  rcases h.read with ⟨rfl, rfl⟩ | ⟨g, cap, rfl, _⟩
  · exact ⟨_, _, rfl⟩
  · exact ⟨_, _, rfl⟩

set_option maxRecDepth 100000 in
set_option maxHeartbeats 4000000 in
theorem utfFields_walk (s : ByteArray) (w : World) (hs : s.size ≤ 1048576) (hT : Tabs w) :
    Calls Tryd.prog 8 #[.string s] w fun e w' => e = .returned (.bool true) ∧ Below w.heap.size w w' := by
  have hT1 := hT.later ((Below.refl w.heap.size w).alloc (Nat.le_refl _) (.cells #[Value.bool false] 4))
  refine (callsIn_wide (n := 3)).1 ?_
  refine callsIn_of_wp_marks Tryd.func8 rfl trivial ?_ rfl
  simp only [Tryd.ntmps8, List.size_toArray, List.length_cons, List.length_nil, Nat.reduceAdd, Nat.reduceSub, Array.replicate_succ, Array.replicate_zero, List.push_toArray, List.append_toArray, List.nil_append, List.cons_append]
  gi_wp2_with fail
  refine ⟨trivial, ?_⟩
  refine (callsIn_wide.2 (wakes_any _ hT1)).mono ?_
  rintro e w1 ⟨rfl, hB1⟩
  have b0 := boxed_on (Boxed.new w 4 (.bool false)) hB1
  have hBw := ((Below.refl w.heap.size w).alloc (Nat.le_refl _) (.cells #[Value.bool false] 4)).trans (hB1.mono (by simp))
  clear hB1 hT1
  gi_wp2_with fail
  refine ⟨trivial, ?_⟩
  refine (callsIn_wide.2 (trim_any s _ (by omega))).mono ?_
  rintro e w2 ⟨rfl, hB2⟩
  have b0 := boxed_on b0 hB2
  have hBw := hBw.trans (hB2.mono hBw.size)
  clear hB2
  gi_wp2_with fail
  refine ⟨trivial, ?_⟩
  refine (callsIn_wide.2 (rTrim_any s _ hs)).mono ?_
  rintro e w3 ⟨rfl, rfl⟩
  gi_wp2_with fail
  refine ⟨trivial, ?_⟩
  refine (callsIn_wide.2 (fields_any s _)).mono ?_
  rintro e w3 ⟨rfl, rfl⟩
  have bs := Boxed.new w2 9 (.string s)
  have b0 := b0.alloc (.cells #[.string s] 9)
  have hBw := hBw.alloc hBw.size (.cells #[.string s] 9)
  have e1 := func_not_nil w2.heap.size
  gi_wp2_with fail
  refine ⟨trivial, ?_⟩
  refine (callsIn_wide.2 (rFields_any s _ hs)).mono ?_
  rintro e w3 ⟨v, rfl, hr3, hB3⟩
  obtain ⟨va, vc, rfl⟩ := hr3.form
  have b0 := (boxed_on b0 hB3).alloc (.cells #[.slice va ((flds s).map (fldV s)).length vc] 41)
  have bs := (boxed_on bs hB3).alloc (.cells #[.slice va ((flds s).map (fldV s)).length vc] 41)
  have bv := Boxed.new w3 41 (.slice va ((flds s).map (fldV s)).length vc)
  have hBw := (hBw.trans (hB3.mono hBw.size)).alloc (by have := hBw.size; have := hB3.size; omega) (.cells #[.slice va ((flds s).map (fldV s)).length vc] 41)
  have hR := hr3.later ((Below.refl w3.heap.size w3).alloc (Nat.le_refl _) (.cells #[.slice va ((flds s).map (fldV s)).length vc] 41))
  clear hB3 e1
  generalize hxs : (flds s).map (fldV s) = xs at *
  gi_wp2_with fail
  refine wpIn_loop_rounds 3 ?_
  generalize hB0 : w.heap.size = B0 at *
  generalize hBS : w2.heap.size = BS at *
  generalize hBV : w3.heap.size = BV at *
  generalize hW3 : w3.alloc (.cells #[.slice va xs.length vc] 41) = W0 at *
  have hlx : xs.length = (flds s).length := by rw [← hxs, List.length_map]
  have HLX := Lib.hid hlx; clear hlx
  have b0p := b0; have bsp := bs; have bvp := bv; have hRp := hR; have hBp := hBw
  clear b0 bs bv hR hBw
  generalize hW0p : W0 = W0p at *
  rw [roundsIn_succ]
  gi_wp2_with fail
  have hc1p := Boxed.new W0p 3 (.int .i64 0)
  have bs1p := bsp.alloc (.cells #[.int .i64 0] 3)
  refine rangeFU rfl (by decide) (gf := 51) (lb := #[.pointer (some ⟨BS, 0, none⟩)]) rfl trivial (enters_of Tryd.func51 (by kernel_rfl) rfl)
    (fields_stops (3 - 1) (by decide) BS W0p.heap.size s hs _ bsp.lt bs1p.lt bs1p.cell) belowK_t (belowK_b (by simp)) (Below.refl _ _) (fun _ => rfl)
    (fun pre W => pre <+: xs ∧ Boxed W W0p.heap.size 3 (.int .i64 (pre.length : Int)) ∧ Below W0p.heap.size W0p W)
    (fun c pre W => ¬ pre <+: xs)
    (OwnFrom.and (ownFrom_pure _ _) (OwnFrom.and (Own.from (boxed_own _ _ _) _) (ownFrom_below (Nat.le_refl _) (by simp))))
    (fun c => ownFrom_pure _ _)
    ⟨List.nil_prefix, hc1p, (Below.refl _ _).alloc (Nat.le_refl _) _⟩
    (fun x t => (t.setIfInBounds 7 (.int .i64 x.1)).setIfInBounds 8 (.string x.2)) ?_ ?_ ?_ ?_
  · intro l x W K hK
    gi_wp2
    simpa using hK
  · rintro l pre x W ⟨hpre, bk, hBW⟩ hlt
    have hlt' : pre.length < xs.length := by have := HLX.out; omega
    have hz := hBW.size
    have hR1 := hRp.read
    rcases hR1 with ⟨rfl, _⟩ | ⟨g, cap, hv, _, hg, hcap, hmx, hcell⟩
    · simp at hlt'
    obtain ⟨rfl, rfl⟩ : va = some ⟨g, 0, none⟩ ∧ vc = cap := by simpa using hv
    have hc2 := hcell pre.length hlt'
    have c1 : W.cell? ⟨g, pre.length * 2, none⟩ = some (.int .i64 (xs[pre.length]).1) := (hBW.cell (p := ⟨g, pre.length * 2, none⟩) hg).trans (by rw [Nat.mul_comm]; exact hc2.1)
    have c2 : W.cell? ⟨g, pre.length * 2 + 1, none⟩ = some (.string (xs[pre.length]).2) := (hBW.cell (p := ⟨g, pre.length * 2 + 1, none⟩) hg).trans (by rw [Nat.mul_comm]; exact hc2.2)
    have bvW := (boxed_on bvp hBW).cell
    have bkc := bk.cell
    have bkf := bk.frozen
    have b0W := boxed_on b0p hBW
    have b0c := b0W.cell
    have b0f := b0W.frozen
    have hsn := prefix_snoc (x := x) hpre hlt'
    generalize hy : xs[pre.length] = y at *
    have HSN := Lib.hid hsn
    have hll : xs.length ≤ 1048576 := by have := flds_len s; have := HLX.out; omega
    have hln : ¬ xs.length ≤ pre.length := by omega
    clear hsn hcell hc2
    gi_wp2
    all_goals first
      | (rename_i h1 h2
         refine ⟨KeepsOthers.setCell _ _ _, (Below.refl W0p.heap.size W).setCell (p := ⟨W0p.heap.size, 0, none⟩) (Nat.le_refl _) _, HSN.out.2 (Prod.ext h1 (toList_one h2)), ?_, hBW.setCell (p := ⟨W0p.heap.size, 0, none⟩) (Nat.le_refl _) _⟩
         have := bk.set (.int .i64 ((pre.length : Int) + 1))
         simpa using this)
      | (rename_i h1 h2; exact ⟨KeepsOthers.setCell _ _ _, fun h => h2 (by rw [HSN.out.1 h])⟩)
      | (rename_i h1; exact ⟨KeepsOthers.setCell _ _ _, fun h => h1 (by rw [HSN.out.1 h])⟩)
  rotate_left
  · rintro D c pre W hD hSp hIx hK
    rw [hxs] at hSp
    exact absurd hSp hIx
  rintro Dp ys W1p hD1p rfl ⟨_, bkp, hBWp⟩ hKp
  have hzp := hBWp.size
  have bvWp := (boxed_on bvp hBWp).cell
  have bkcp := bkp.cell
  rw [hxs] at bkcp
  gi_wp2
  have bsWp := boxed_on bsp hBWp
  refine rangeFU rfl (by decide) (gf := 51) (lb := #[.pointer (some ⟨BS, 0, none⟩)]) rfl trivial (enters_of Tryd.func51 (by kernel_rfl) rfl)
    (fields_stops (3 - 1) (by decide) BS W1p.heap.size s hs _ bsWp.lt bsWp.lt bsWp.cell) belowK_t (belowK_b (Nat.le_refl _)) (Below.refl _ _) (fun _ => rfl)
    (fun pre W' => Below W1p.heap.size W1p W')
    (fun c pre W' => c = .exit 4 ∧ Below W1p.heap.size W1p W')
    (ownFrom_below (Nat.le_refl _) (Nat.le_refl _))
    (fun c => OwnFrom.and (ownFrom_pure _ _) (ownFrom_below (Nat.le_refl _) (Nat.le_refl _)))
    (Below.refl _ _)
    (fun x t => t) ?_ ?_ ?_ ?_
  · intro l x W K hK
    gi_wp2
    simpa using hK
  · rintro l pre x W2 hB2 hlt
    gi_wp2
    exact ⟨KeepsOthers.refl _, rfl, hB2⟩
  rintro Ep ys W2p hEp _ hB2p hKEp
  rotate_left
  rintro Ep c ys W2p hEp _ ⟨rfl, hB2p⟩ hKEp
  all_goals
    have hK1p := (hB2p.block Dp (Array.getElem?_eq_some_iff.1 hKp).1).trans hKp
    have hB12p := hBWp.trans (hB2p.mono hzp)
    have hzzp := hB12p.size
    gi_wp2
    have b0q := boxed_on b0p hB12p
    have bsq := boxed_on bsp hB12p
    have bvq := boxed_on bvp hB12p
    have hRq := hRp.later hB12p
    have hBq := hBp.trans (hB12p.mono (by rw [← hB0]; exact hBp.size))
    generalize hW0q : W2p = W0q at *
    have hlb0 := b0p.lt
    clear b0p bsp bvp hRp bkp bkcp bvWp bsWp hc1p bs1p
    rw [roundsIn_succ]
    gi_wp2_with fail
    have hc1q := Boxed.new W0q 3 (.int .i64 0)
    have bs1q := bsq.alloc (.cells #[.int .i64 0] 3)
    refine rangeFU rfl (by decide) (gf := 51) (lb := #[.pointer (some ⟨BS, 0, none⟩)]) rfl trivial (enters_of Tryd.func51 (by kernel_rfl) rfl)
      (fields_stops (3 - 1) (by decide) BS W0q.heap.size s hs _ bsq.lt bs1q.lt bs1q.cell) belowK_t (belowK_b (by simp)) (Below.refl _ _) (fun _ => rfl)
      (fun pre W => pre <+: xs ∧ Boxed W W0q.heap.size 3 (.int .i64 (pre.length : Int)) ∧ Below W0q.heap.size W0q W)
      (fun c pre W => ¬ pre <+: xs)
      (OwnFrom.and (ownFrom_pure _ _) (OwnFrom.and (Own.from (boxed_own _ _ _) _) (ownFrom_below (Nat.le_refl _) (by simp))))
      (fun c => ownFrom_pure _ _)
      ⟨List.nil_prefix, hc1q, (Below.refl _ _).alloc (Nat.le_refl _) _⟩
      (fun x t => (t.setIfInBounds 7 (.int .i64 x.1)).setIfInBounds 8 (.string x.2)) ?_ ?_ ?_ ?_
    · intro l x W K hK
      gi_wp2
      simpa using hK
    · rintro l pre x W ⟨hpre, bk, hBW⟩ hlt
      have hlt' : pre.length < xs.length := by have := HLX.out; omega
      have hz := hBW.size
      have hR1 := hRq.read
      rcases hR1 with ⟨rfl, _⟩ | ⟨g, cap, hv, _, hg, hcap, hmx, hcell⟩
      · simp at hlt'
      obtain ⟨rfl, rfl⟩ : va = some ⟨g, 0, none⟩ ∧ vc = cap := by simpa using hv
      have hc2 := hcell pre.length hlt'
      have c1 : W.cell? ⟨g, pre.length * 2, none⟩ = some (.int .i64 (xs[pre.length]).1) := (hBW.cell (p := ⟨g, pre.length * 2, none⟩) hg).trans (by rw [Nat.mul_comm]; exact hc2.1)
      have c2 : W.cell? ⟨g, pre.length * 2 + 1, none⟩ = some (.string (xs[pre.length]).2) := (hBW.cell (p := ⟨g, pre.length * 2 + 1, none⟩) hg).trans (by rw [Nat.mul_comm]; exact hc2.2)
      have bvW := (boxed_on bvq hBW).cell
      have bkc := bk.cell
      have bkf := bk.frozen
      have b0W := boxed_on b0q hBW
      have b0c := b0W.cell
      have b0f := b0W.frozen
      have hsn := prefix_snoc (x := x) hpre hlt'
      generalize hy : xs[pre.length] = y at *
      have HSN := Lib.hid hsn
      have hll : xs.length ≤ 1048576 := by have := flds_len s; have := HLX.out; omega
      have hln : ¬ xs.length ≤ pre.length := by omega
      clear hsn hcell hc2
      gi_wp2
      all_goals first
        | (rename_i h1 h2
           refine ⟨KeepsOthers.setCell _ _ _, (Below.refl W0q.heap.size W).setCell (p := ⟨W0q.heap.size, 0, none⟩) (Nat.le_refl _) _, HSN.out.2 (Prod.ext h1 (toList_one h2)), ?_, hBW.setCell (p := ⟨W0q.heap.size, 0, none⟩) (Nat.le_refl _) _⟩
           have := bk.set (.int .i64 ((pre.length : Int) + 1))
           simpa using this)
        | (rename_i h1 h2; exact ⟨KeepsOthers.setCell _ _ _, fun h => h2 (by rw [HSN.out.1 h])⟩)
        | (rename_i h1; exact ⟨KeepsOthers.setCell _ _ _, fun h => h1 (by rw [HSN.out.1 h])⟩)
    rotate_left
    · rintro D c pre W hD hSp hIx hK
      rw [hxs] at hSp
      exact absurd hSp hIx
    rintro Dq ys W1q hD1q rfl ⟨_, bkq, hBWq⟩ hKq
    have hzq := hBWq.size
    have bvWq := (boxed_on bvq hBWq).cell
    have bkcq := bkq.cell
    rw [hxs] at bkcq
    gi_wp2
    have bsWq := boxed_on bsq hBWq
    refine rangeFU rfl (by decide) (gf := 51) (lb := #[.pointer (some ⟨BS, 0, none⟩)]) rfl trivial (enters_of Tryd.func51 (by kernel_rfl) rfl)
      (fields_stops (3 - 1) (by decide) BS W1q.heap.size s hs _ bsWq.lt bsWq.lt bsWq.cell) belowK_t (belowK_b (Nat.le_refl _)) (Below.refl _ _) (fun _ => rfl)
      (fun pre W' => Below W1q.heap.size W1q W')
      (fun c pre W' => c = .exit 4 ∧ Below W1q.heap.size W1q W')
      (ownFrom_below (Nat.le_refl _) (Nat.le_refl _))
      (fun c => OwnFrom.and (ownFrom_pure _ _) (ownFrom_below (Nat.le_refl _) (Nat.le_refl _)))
      (Below.refl _ _)
      (fun x t => t) ?_ ?_ ?_ ?_
    · intro l x W K hK
      gi_wp2
      simpa using hK
    · rintro l pre x W2 hB2 hlt
      gi_wp2
      exact ⟨KeepsOthers.refl _, rfl, hB2⟩
    rintro Eq ys W2q hEq _ hB2q hKEq
    rotate_left
    rintro Eq c ys W2q hEq _ ⟨rfl, hB2q⟩ hKEq
    all_goals
      have hK1q := (hB2q.block Dq (Array.getElem?_eq_some_iff.1 hKq).1).trans hKq
      have hB12q := hBWq.trans (hB2q.mono hzq)
      have hzzq := hB12q.size
      gi_wp2
      have b0r := boxed_on b0q hB12q
      have hKp' := (hB12q.block Dp (Array.getElem?_eq_some_iff.1 hK1p).1).trans hK1p
      have hKEp' := (hB12q.block Ep (Array.getElem?_eq_some_iff.1 hKEp).1).trans hKEp
      have hBr := hBq.trans (hB12q.mono (by rw [← hB0]; exact hBq.size))
      have b0c := b0r.cell
      have b0f := b0r.frozen
      clear bkq bkcq bvWq bsWq hc1q bs1q
      rw [roundsIn_succ]
      gi_wp2
      have hz0 : w.heap.size ≤ W0p.heap.size := hBp.size
      have hd1 : W0p.heap.size + 1 ≤ Dp := by simpa using hD1p
      have hd2 : W0q.heap.size + 1 ≤ Dq := by simpa using hD1q
      have hd3 := (Array.getElem?_eq_some_iff.1 hKp).1
      have hd4 := (Array.getElem?_eq_some_iff.1 hKEp).1
      have hd5 := (Array.getElem?_eq_some_iff.1 hKq).1
      have hlb := b0q.lt
      have hlp : B0 < W0p.heap.size := hlb0
      have ks := KeepsOthers.setCell W2q ⟨B0, 0, none⟩ (.bool true)
      have hB' := hBr.setCell (p := ⟨B0, 0, none⟩) (Nat.le_refl _) (.bool true)
      have bT := b0r.set (.bool true)
      refine leaves_marks (w0 := w) [Eq, Dq, Ep, Dp] _ (fun D hD => ?_) ?_ (fun w' hb hk => ?_)
      · simp only [List.mem_cons, List.not_mem_nil, or_false] at hD
        rcases hD with rfl | rfl | rfl | rfl
        · exact ⟨by omega, ks.same _ _ hKEq rfl⟩
        · exact ⟨by omega, ks.same _ _ hK1q rfl⟩
        · exact ⟨by omega, ks.same _ _ hKEp' rfl⟩
        · exact ⟨by omega, ks.same _ _ hKp' rfl⟩
      · simp only [List.nodup_cons, List.mem_cons, List.not_mem_nil, or_false, not_or, List.nodup_nil, not_false_iff, and_true]
        omega
      · have hc5 : w'.cell? ⟨B0, 0, none⟩ = some (.bool true) := by
          have h := hk B0 (by simp only [List.mem_cons, List.not_mem_nil, or_false, not_or]; omega)
          exact (World.cell?_of_block h).trans bT.cell
        refine ⟨.bool true, ?_, rfl, ?_⟩
        · simp [results, Tryd.f8, go_sem, hc5]
        · rw [hB0] at hb ⊢; exact hB'.trans hb
end Go.Proofs.YtdihhicjaaekhaaDoor
