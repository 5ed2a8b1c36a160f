/-
  The walk of UtfTrims: what is trimmed has the same fields, and fields put together have them, too.
-/
import Derived.Test.YtdihhicjaaekhaaDoorFieldsW
import Derived.Test.YtdihhicjaaekhaaDoorTrmP
namespace Go.Proofs.YtdihhicjaaekhaaDoor
open Go.RowKit Go.Shelf Go.PlainAid
attribute [local go_sem] Oper.semAt_some

/-- What a loop of the second loop keeps. -/
def RndI (Y : ByteArray) (L : List ByteArray) (W0 Wl : World) (pre : List { x : Int × ByteArray // FldOk Y x }) (W : World) : Prop :=
  pre.map (fun x => x.1.2) <+: L ∧ Boxed W W0.heap.size 3 (.int .i64 (pre.length : Int)) ∧ W.heap[W0.heap.size + 1]? = Wl.heap[W0.heap.size + 1]? ∧ Below W0.heap.size W0 W
def RndK (n : Nat) (A C : World) : Prop := Below n A C ∧ C.heap[n + 1]? = A.heap[n + 1]?
theorem rndI_own (Y : ByteArray) (L : List ByteArray) (W0 Wl : World) (hz : Wl.heap.size = W0.heap.size + 2) : OwnFrom Wl.heap.size (RndI Y L W0 Wl) := by
  rintro pre A C row ⟨h1, bk, hbs, hb⟩ hg hr
  have hne : ∀ k, k < W0.heap.size + 2 → some k ≠ row := fun k hk h => by have := (hr k h.symm).1; omega
  refine ⟨h1, bk.kept hg (hne _ (by omega)), ?_, (ownFrom_below (β := Unit) (w₀ := W0) (n₀ := W0.heap.size) (B := Wl.heap.size) (Nat.le_refl _) (by omega)) () A C row hb hg hr⟩
  by_cases h : W0.heap.size + 1 < A.heap.size
  · exact (hg.block _ h (hne _ (by omega))).trans hbs
  · rw [Array.getElem?_eq_none (by omega)] at hbs
    rw [Array.getElem?_eq_getElem (by omega)] at hbs
    cases hbs
theorem strRow_read {base : Nat} {w : World} {v : Value} {l : List ByteArray} (h : w.ownsRow base 9 1 v l.length (l.map Value.string)) :
    (l = [] ∧ v = .slice none 0 0) ∨ ∃ g cap, v = .slice (some ⟨g, 0, none⟩) l.length cap ∧ base ≤ g ∧ g < w.heap.size ∧ l.length ≤ cap ∧ cap ≤ maxLen ∧ ∀ j (hj : j < l.length), w.cell? ⟨g, j, none⟩ = some (.string l[j]) := by
  obtain ⟨h1, h2⟩ := id h
  rcases h2 with ⟨hv, hn⟩ | ⟨g, cap, cur, hv, hg, hh, hc, hm, hs, ht⟩
  · exact .inl ⟨List.eq_nil_of_length_eq_zero hn, hv⟩
  · refine .inr ⟨g, cap, hv, hg, (Array.getElem?_eq_some_iff.1 hh).1, hc, hm, fun j hj => ?_⟩
    have h' : w.ownsRow base 9 1 (.slice (some ⟨g, 0, none⟩) l.length cap) l.length (l.map Value.string) := by rw [← hv]; exact h
    rw [World.ownsRow.cellAt h' j (by omega), List.getElem?_map, List.getElem?_eq_getElem hj]
    rfl
theorem own_later {base : Nat} {e : TypeId} {n k : Nat} {w w' : World} {v : Value} {xs : List Value} (h : w.ownsRow base e k v n xs) (hb : Below w.heap.size w w') : w'.ownsRow base e k v n xs := by
  obtain ⟨h1, h2⟩ := h
  refine ⟨h1, ?_⟩
  rcases h2 with h2 | ⟨g, cap, cur, hv, hg, hh, r⟩
  · exact .inl h2
  · exact .inr ⟨g, cap, cur, hv, hg, (hb.block g (Array.getElem?_eq_some_iff.1 hh).1).trans hh, r⟩
theorem texts_eq {s Y : ByteArray} (h : (flds Y).map (fldT Y) = (flds s).map (fldT s)) : (flds Y).map (fun x => Y.extract x.1 x.2) = (flds s).map (fun x => s.extract x.1 x.2) := by
  have e : ∀ t : ByteArray, (flds t).map (fun x => t.extract x.1 x.2) = ((flds t).map (fldT t)).map (fun l => (⟨l.toArray⟩ : ByteArray)) := fun t => by
    rw [List.map_map]
    rfl
  rw [e, e, h]
theorem idx_zero (a b : Value) (W : World) : (Instr.index 46 (.agg #[a, b]) (.int .i64 0)).run Tryd.prog W = .ok a W := by
  simp [Instr.index, go_sem]
theorem idx_one (a b : Value) (W : World) : (Instr.index 46 (.agg #[a, b]) (.int .i64 1)).run Tryd.prog W = .ok b W := by
  simp [Instr.index, go_sem]
theorem infoStr : (Tryd.prog.info? 9).map (fun i => (i.zero, i.size, i.bytes)) = some (some (.string ⟨#[]⟩), 1, 16) := by kernel_rfl
theorem act_norm {F : Fence} {n : Nat} {P : Program} {c : Code} {Q : Exit → Act → World → Prop} {a a' : Act} {w : World} (h : a = a') (k : c.wpIn F n P Q a' w) : c.wpIn F n P Q a w := by
  rw [h]
  exact k
/-- What the first loop keeps: the fields put together, the row of the fields, the captured text. -/
def TrmI (s : ByteArray) (Wl : World) (B : Nat) (pre : List { x : Int × ByteArray // FldOk s x }) (W : World) : Prop :=
  ∃ (j : ByteArray) (v : Value), Boxed W B 9 (.string j) ∧ j.data.toList = joinW (pre.map fun x => x.1.2.data.toList) ∧ j.size ≤ pre.length * 2097152 ∧ Boxed W (B + 1) 45 v ∧
    W.ownsRow (B + 3) 9 1 v pre.length (pre.map fun x => Value.string x.1.2) ∧ W.heap[B + 2]? = Wl.heap[B + 2]? ∧ Below B Wl W ∧ B + 3 ≤ W.heap.size
def TrmK (B : Nat) (A C : World) : Prop := Below B A C ∧ C.heap[B + 2]? = A.heap[B + 2]?
theorem trmI_own (s : ByteArray) (Wl : World) (B : Nat) (hB : Wl.heap.size = B + 3) : OwnFrom Wl.heap.size (TrmI s Wl B) := by
  rintro pre X Y row ⟨j, v, bj, hj, hjs, bv, hrow, hbs, hb, hz⟩ hg hr
  have hne : ∀ k, k < B + 3 → some k ≠ row := fun k hk h => by have := (hr k h.symm).1; omega
  refine ⟨j, v, bj.kept hg (hne _ (by omega)), hj, hjs, bv.kept hg (hne _ (by omega)), hrow.kept hg ?_, (hg.block _ (by omega) (hne _ (by omega))).trans hbs, ?_, Nat.le_trans hz hg.size⟩
  · cases hv : v.ownBlock with
    | none => exact .inl rfl
    | some g =>
      refine .inr fun h => ?_
      obtain ⟨_, o, ho, hc⟩ := hr g h.symm
      rcases hrow.2 with ⟨rfl, _⟩ | ⟨g', cap, cur, rfl, _, hgb, _⟩
      · cases hv
      · obtain rfl : g' = g := Option.some.inj hv
        rw [hgb] at ho
        cases ho
        cases hc
  · exact (ownFrom_below (β := Unit) (w₀ := Wl) (n₀ := B) (B := Wl.heap.size) (by omega) (by omega)) () X Y row hb hg hr

theorem trm_join {W : World} {B n : Nat} {j J : ByteArray} {v : Value} {xs : List Value} (bj : Boxed W B 9 (.string j)) (bv : Boxed W (B + 1) 45 v) (hrow : W.ownsRow (B + 3) 9 1 v n xs) (hz : B + 3 ≤ W.heap.size) :
    Boxed (W.setCell ⟨B, 0, none⟩ (.string J)) B 9 (.string J) ∧ Boxed (W.setCell ⟨B, 0, none⟩ (.string J)) (B + 1) 45 v ∧ (W.setCell ⟨B, 0, none⟩ (.string J)).ownsRow (B + 3) 9 1 v n xs ∧ TrmK B W (W.setCell ⟨B, 0, none⟩ (.string J)) ∧
      KeepsOthers W (W.setCell ⟨B, 0, none⟩ (.string J)) ∧ B + 3 ≤ (W.setCell ⟨B, 0, none⟩ (.string J)).heap.size := by
  have hg := grownBy_setCell' W B (.string J)
  refine ⟨bj.set _, bv.other (by omega) _, hrow.kept hg ?_, ⟨(Below.refl B W).setCell (p := ⟨B, 0, none⟩) (Nat.le_refl _) _, hg.block _ (by omega) (fun e => by cases e)⟩, KeepsOthers.setCell _ _ _, Nat.le_trans hz hg.size⟩
  cases hv : v.ownBlock with
  | none => exact .inl rfl
  | some g =>
    refine .inr fun e => ?_
    have h1 := (hrow.lt g hv).1
    cases e
    omega
theorem trm_app {W w1 : World} {B n m : Nat} {j : ByteArray} {v v' : Value} {xs ys : List Value} {tmp : Obj} (bj : Boxed W B 9 (.string j)) (bv : Boxed W (B + 1) 45 v) (hrow : W.ownsRow (B + 3) 9 1 v n xs) (hz : B + 3 ≤ W.heap.size)
    (hown' : w1.ownsRow (B + 3) 9 1 v' m ys) (hgrow : (W.alloc tmp).grownBy w1 v.ownBlock) :
    Boxed w1 (B + 1) 45 v ∧ Boxed (w1.setCell ⟨B + 1, 0, none⟩ v') B 9 (.string j) ∧ Boxed (w1.setCell ⟨B + 1, 0, none⟩ v') (B + 1) 45 v' ∧ (w1.setCell ⟨B + 1, 0, none⟩ v').ownsRow (B + 3) 9 1 v' m ys ∧ TrmK B W (w1.setCell ⟨B + 1, 0, none⟩ v') ∧
      KeepsOthers W (w1.setCell ⟨B + 1, 0, none⟩ v') ∧ B + 3 ≤ (w1.setCell ⟨B + 1, 0, none⟩ v').heap.size := by
  have hne : ∀ k, k < B + 3 → some k ≠ v.ownBlock := fun k hk e => by have := (hrow.lt k e.symm).1; omega
  have bj1 := (bj.alloc tmp).kept hgrow (hne _ (by omega))
  have bv1 := (bv.alloc tmp).kept hgrow (hne _ (by omega))
  have hg := grownBy_setCell' w1 (B + 1) v'
  have hb2 : w1.heap[B + 2]? = W.heap[B + 2]? := (hgrow.block _ (by simp; omega) (hne _ (by omega))).trans (Below.heap_alloc W tmp _ (by omega))
  have hz1 : W.heap.size ≤ w1.heap.size := Nat.le_trans (by simp) hgrow.size
  refine ⟨bv1, bj1.other (by omega) _, bv1.set _, hown'.kept hg ?_, ⟨?_, (hg.block _ (by omega) (fun e => by cases e)).trans hb2⟩, ?_, Nat.le_trans hz (Nat.le_trans hz1 hg.size)⟩
  · cases hv : v'.ownBlock with
    | none => exact .inl rfl
    | some g =>
      refine .inr fun e => ?_
      have h1 := (hown'.lt g hv).1
      cases e
      omega
  · exact (((Below.refl B W).alloc (by omega) tmp).grown hgrow (by simp; omega) (fun k e => by have := (hrow.lt k e).1; omega)).setCell (p := ⟨B + 1, 0, none⟩) (Nat.le_succ _) v'
  · refine ((KeepsOthers.alloc W tmp).trans (KeepsOthers.of_grownBy hgrow fun k o ek hk => ?_)).trans (KeepsOthers.setCell _ _ _)
    rcases (hrow.alloc tmp).2 with ⟨rfl, _⟩ | ⟨g, cap, cur, rfl, _, hgb, _⟩
    · simp [Value.ownBlock] at ek
    · obtain rfl : g = k := by simpa [Value.ownBlock] using ek
      rw [hgb] at hk; cases hk; rfl
/-- The first loop's word, one round on. -/
theorem trmI_next {s : ByteArray} {Wl : World} {B : Nat} {pre : List { x : Int × ByteArray // FldOk s x }} {x : { x : Int × ByteArray // FldOk s x }} {W W' : World} {j J : ByteArray} {v' : Value}
    (hj : j.data.toList = joinW (pre.map fun x => x.1.2.data.toList)) (hJ : J.data.toList = jStep j.data.toList x.1.2.data.toList) (hjs : j.size ≤ pre.length * 2097152) (hx : x.1.2.size ≤ 1048576) (hbs : W.heap[B + 2]? = Wl.heap[B + 2]?) (hB : Below B Wl W)
    (bj : Boxed W' B 9 (.string J)) (bv : Boxed W' (B + 1) 45 v') (hrow : W'.ownsRow (B + 3) 9 1 v' (pre.length + 1) ((pre.map fun x => Value.string x.1.2) ++ [Value.string x.1.2])) (hk : TrmK B W W') (hz : B + 3 ≤ W'.heap.size) : TrmI s Wl B (pre ++ [x]) W' := by
  refine ⟨J, v', bj, ?_, ?_, bv, ?_, hk.2.trans hbs, hB.trans hk.1, hz⟩
  · rw [List.map_append, List.map_cons, List.map_nil, joinW_snoc, ← hj, hJ]
  · have e : J.size = J.data.toList.length := by rw [Array.length_toList]; rfl
    have e1 : j.size = j.data.toList.length := by rw [Array.length_toList]; rfl
    have e2 : x.1.2.size = x.1.2.data.toList.length := by rw [Array.length_toList]; rfl
    rw [e, hJ]
    unfold jStep
    rw [List.length_append, List.length_append, show [x].length = 1 from rfl]
    split
    · omega
    · rw [List.length_append, show [(32 : UInt8)].length = 1 from rfl]
      omega
  · rw [List.length_append, List.map_append]
    exact hrow

set_option maxRecDepth 100000 in
set_option maxHeartbeats 8000000 in
theorem utfTrims_walk (s : ByteArray) (w : World) (hs : s.size ≤ 1048576) (hT : Tabs w) :
    Calls Tryd.prog 9 #[.string s] w fun e w' => e = .returned (.bool true) ∧ Below w.heap.size w w' := by
  have hB2 := ((Below.refl w.heap.size w).alloc (Nat.le_refl _) (.cells #[Value.string s] 9)).alloc (by simp) (.cells #[Value.bool false] 4)
  have hT1 := hT.later hB2
  have hs1 := (Boxed.new w 9 (.string s)).alloc (.cells #[Value.bool false] 4)
  have hb1 := Boxed.new (w.alloc (.cells #[Value.string s] 9)) 4 (.bool false)
  rw [World.size_alloc] at hb1
  have bl := blank_any
  have htt := trim_trim s
  have htz := trim_size s
  have hte := @trim_ends s
  refine (callsIn_wide (n := 3)).1 ?_
  refine callsIn_of_wp_marks Tryd.func9 rfl trivial ?_ rfl
  simp only [Tryd.ntmps9, List.size_toArray, List.length_cons, List.length_nil, Nat.reduceAdd, Nat.reduceSub, Array.replicate_succ, Array.replicate_zero, List.push_toArray, List.append_toArray, List.nil_append, List.cons_append]
  gi_wp2_with fail
  refine ⟨trivial, ?_⟩
  refine (callsIn_wide.2 (wakes_any _ hT1)).mono ?_
  rintro e w1 ⟨rfl, hB1⟩
  have bs := boxed_on hs1 hB1
  have br := boxed_on hb1 hB1
  have hBw := hB2.trans (hB1.mono (by simp; omega))
  clear hB1 hT1 hs1 hb1 hB2
  have bsc := bs.cell
  gi_wp2_with fail
  refine ⟨trivial, ?_⟩
  refine (callsIn_wide.2 (trim_any s _ (by omega))).mono ?_
  rintro e w2 ⟨rfl, hB2⟩
  have bs := boxed_on bs hB2
  have br := boxed_on br hB2
  have hBw := hBw.trans (hB2.mono hBw.size)
  clear hB2 bsc
  have cT := fun W => trim_any (trimB s) W (by omega)
  rw [htt] at cT
  generalize hTT : trimB s = T at *
  have HTT := Lib.hid hTT; clear hTT htt
  gi_wp2_with fail
  refine ⟨trivial, ?_⟩
  refine (callsIn_wide.2 (cT _)).mono ?_
  rintro e w3 ⟨rfl, hB3⟩
  have bs := boxed_on bs hB3
  have br := boxed_on br hB3
  have hBw := hBw.trans (hB3.mono hBw.size)
  clear hB3 cT
  have hd : T.size = 0 ∨ (∃ h : 0 < T.size, bBlank ((T[0]'h).toNat : Int) = false ∧ bBlank ((T[T.size - 1]'(by omega)).toNat : Int) = false) := by
    by_cases h : 0 < T.size
    · have h' := hte h
      refine .inr ⟨h, ?_⟩
      have e0 : ((T[0]'h).toNat : Int) = bt T 0 := by unfold bt; rw [dif_pos h]
      have e1 : ((T[T.size - 1]'(by omega)).toNat : Int) = bt T (T.size - 1) := by unfold bt; rw [dif_pos (by omega)]
      rw [e0, e1]
      exact h'
    · exact .inl (by omega)
  clear hte
  have bsc := ((bs.alloc (.cells #[.string ⟨#[]⟩] 9)).alloc (.cells #[.slice none 0 0] 45)).cell
  rcases hd with hz | ⟨hz, hb0, hb1⟩
  gi_wp2_with fail
  refine ⟨trivial, ?_⟩
  gi_wp2_with (exact absurd (Option.some.inj ‹some undef = some (Value.bool _)›) (by intro h; cases h))
  refine ⟨trivial, ?_⟩
  gi_wp2_with (exact absurd (Option.some.inj ‹some undef = some (Value.bool _)›) (by intro h; cases h))
  clear hz
  rotate_left
  have hu0 : ((T[0]'hz).toNat : Int) < 256 := by have := (T[0]'hz).toNat_lt; omega
  have hu1 : ((T[T.size - 1]'(by omega)).toNat : Int) < 256 := by have := (T[T.size - 1]'(by omega)).toNat_lt; omega
  have i1 : IntKind.i64.wrap ((T.size : Int) - 1) = ((T.size - 1 : Nat) : Int) := by rw [show ((T.size : Int) - 1) = ((T.size - 1 : Nat) : Int) by omega]; exact IntWalk.i64_in _ (by omega)
  have hlt : T.size - 1 < T.size := by omega
  gi_wp2_with fail
  refine ⟨trivial, ?_⟩
  refine (callsIn_wide.2 (bl _ (by omega) hu0 _)).mono ?_
  rintro e w4 ⟨rfl, rfl⟩
  gi_wp2_with fail
  refine ⟨trivial, ?_⟩
  refine (callsIn_wide.2 (bl _ (by omega) hu1 _)).mono ?_
  rintro e w4 ⟨rfl, rfl⟩
  gi_wp2_with fail
  clear i1 hu0 hu1 hb0 hb1
  all_goals
    refine ⟨trivial, ?_⟩
    refine (callsIn_wide.2 (fields_any s _)).mono ?_
    rintro e w4 ⟨rfl, rfl⟩
    clear bsc
    have hw0 := bs.lt
    have hw1 := br.lt
    have bsl := ((bs.alloc (.cells #[.string ⟨#[]⟩] 9)).alloc (.cells #[.slice none 0 0] 45)).alloc (.cells #[.string s] 9)
    have brl := ((br.alloc (.cells #[.string ⟨#[]⟩] 9)).alloc (.cells #[.slice none 0 0] 45)).alloc (.cells #[.string s] 9)
    have bjl := ((Boxed.new w3 9 (.string ⟨#[]⟩)).alloc (.cells #[.slice none 0 0] 45)).alloc (.cells #[.string s] 9)
    have bvl := (Boxed.new (w3.alloc (.cells #[.string ⟨#[]⟩] 9)) 45 (.slice none 0 0)).alloc (.cells #[.string s] 9)
    have bcl := Boxed.new ((w3.alloc (.cells #[.string ⟨#[]⟩] 9)).alloc (.cells #[.slice none 0 0] 45)) 9 (.string s)
    have hBl := ((hBw.alloc hBw.size (.cells #[.string ⟨#[]⟩] 9)).alloc (by have := hBw.size; simp; omega) (.cells #[.slice none 0 0] 45)).alloc (by have := hBw.size; simp; omega) (.cells #[.string s] 9)
    simp only [World.size_alloc] at bvl bcl
    gi_wp2_with fail
    have hzl : (((w3.alloc (.cells #[.string ⟨#[]⟩] 9)).alloc (.cells #[.slice none 0 0] 45)).alloc (.cells #[.string s] 9)).heap.size = w3.heap.size + 3 := by simp
    have hz3 : w.heap.size ≤ w3.heap.size := hBw.size
    generalize hWl : (((w3.alloc (.cells #[.string ⟨#[]⟩] 9)).alloc (.cells #[.slice none 0 0] 45)).alloc (.cells #[.string s] 9)) = Wl at *
    generalize hB4 : w3.heap.size = B4 at *
    clear hWl hB4 bs br hBw
    refine rangeFU rfl (by decide) (gf := 51) (lb := #[.pointer (some ⟨B4 + 1 + 1, 0, none⟩)]) rfl trivial (enters_of Tryd.func51 (by kernel_rfl) rfl)
      (fields_stops_ok (3 - 1) (by decide) (B4 + 1 + 1) s (by omega) _ (TrmK B4) (fun A C h hA => by rw [← hA]; exact World.cell?_of_block h.2) (by omega) bcl.cell)
      (fun h k => ⟨h.1.trans k.1, k.2.trans h.2⟩) (fun W l o o' hl h h1 h2 => ⟨belowK_b (w := Wl) (by omega) W l o o' hl h h1 h2, World.putObj_heap_other (by omega)⟩) (Below.refl _ _) (fun _ => rfl)
      (TrmI s Wl B4) (fun _ _ _ => False) (trmI_own s Wl B4 hzl) (fun _ _ _ _ _ h _ _ => h)
      ⟨⟨#[]⟩, _, bjl, rfl, Nat.zero_le _, bvl, World.ownsRow_nil _ _ _ _, rfl, Below.refl _ _, by omega⟩
      (fun x t => (t.setIfInBounds 6 (.int .i64 x.1.1)).setIfInBounds 7 (.string x.1.2)) ?_ ?_ ?_ ?_
    · intro l x W K hK
      gi_wp2
      simpa using hK
    · rintro l pre ⟨⟨x1, X⟩, hok⟩ W ⟨j, v, bj, hj, hjs, bv, hrow, hbs, hB, hsz⟩ hlt
      obtain ⟨f, e, hfe, hes, hnb, hx⟩ := id hok
      obtain ⟨rfl, hX0⟩ : x1 = f ∧ X = s.extract f e := by simpa using hx
      clear hx
      have bsW := (hB.block _ hw0).trans bsl
      have bsc := Boxed.cell bsW
      have hXz := size_sub s f e hes
      have hXb := fun k h => bt_sub s f e k h hes
      rw [← hX0] at hXz hXb
      have hX := hX0.symm
      clear hX0
      have hXe : X.toList.isEmpty = false := isEmpty_not _ (by omega)
      have i1 : IntKind.i64.wrap ((f : Int) + (X.size : Int)) = (e : Int) := by rw [hXz, show ((f : Int) + ((e - f : Nat) : Int)) = (e : Int) by omega]; exact IntWalk.i64_in _ (by omega)
      have h1 : ¬ (f : Int) < 0 := by omega
      have h2 : ¬ (s.size : Int) < (e : Int) := by omega
      have hfe' : f ≤ e := by omega
      have HLT := Lib.hid hlt; have HJ := Lib.hid hj
      clear hlt hj
      have HXZ := Lib.hid hXz; clear hXz
      apply act_norm
      · simp
        rfl
      have HNB := Lib.hid hnb; have HXB := Lib.hid hXb
      clear hnb hXb
      gi_wp2
      have hXm : X.size ≤ 1048576 := by have := HXZ.out; omega
      gi_loopw [8] (fun i wr => ∃ k : Nat, i = .int .i64 (k : Int) ∧ k ≤ X.size ∧ wr = W) (fun i _ => X.size - (intOf i).toNat)
      case atStart => exact ⟨0, rfl, Nat.zero_le _, rfl⟩
      case round =>
        obtain ⟨k, rfl, hk, rfl⟩ := hrel
        by_cases hkl : k < X.size
        · have hbt : ((X[k]'hkl).toNat : Int) = bt X k := by unfold bt; rw [dif_pos hkl]
          have hb0 := bt_nonneg X k
          have hb1 : bt X k < 256 := by have := bt_le X k; omega
          have hkb : bBlank (bt X k) = false := by
            have := HXZ.out
            rw [HXB.out k (by omega)]
            exact HNB.out _ (by omega) (by omega)
          gi_wp2_with (refine ⟨trivial, ?_⟩; gi_at_call 33; refine (CallsIn.inRound l (callsIn_wide.2 (bl _ hb0 hb1 _))).mono ?_; rintro e w1 ⟨rfl, rfl⟩)
          go_roundw
          case rel => exact ⟨k + 1, by go_num, hkl, by trivial⟩
          case measure => simp [intOf]; omega
        · obtain ⟨i0, hi, hz0, hz1, hz2⟩ := info_parts infoStr
          have bjc := bj.cell
          have bjf := bj.frozen
          have bvc := bv.cell
          have bvf := bv.frozen
          have hlen : pre.length ≤ 1048576 := by have := HLT.out; have := flds_len s; omega
          by_cases hj0 : j.size = 0
          · have hje := isEmpty_of j hj0
            obtain ⟨b1, b2, b3, k1, o1, z1⟩ := trm_join (J := j ++ X) bj bv hrow hsz
            have b2c := b2.cell
            have hc9 := cell_one_new (wr.setCell ⟨B4, 0, none⟩ (.string (j ++ X))) (.string X) 9
            rw [show (wr.setCell ⟨B4, 0, none⟩ (.string (j ++ X))).heap.size = wr.heap.size by simp] at hc9
            gi_wp2_with (gi_at_builtin; go_must (refine wpListIn_append_own _ rfl _ _ 45 rfl (B4 + 3) 9 i0 (.string ⟨#[]⟩) 1 16 Tryd.underlying45 hi hz0 hz1 hz2 rfl (by decide) _ _ _ rfl (World.ownsRow.alloc b3 _) ⟨_, 0, none⟩ 1 1 [.string X] rfl rfl hc9 (by simp [Value.oneCell']) (by unfold maxLen; omega) (by omega) (by simp; omega) ?_); intro v' w9 hown' hgrow _; obtain ⟨g', cap', rfl⟩ := ownsRow_succ hown'; obtain ⟨b4, b5, b6, b7, k2, o2, z2⟩ := trm_app b1 b2 b3 z1 hown' hgrow; have b4c := b4.cell; have b4f := b4.frozen)
            refine ⟨o1.trans o2, ⟨k1.1.trans k2.1, k2.2.trans k1.2⟩, trmI_next HJ.out ?_ hjs hXm hbs hB b5 b6 b7 ⟨k1.1.trans k2.1, k2.2.trans k1.2⟩ z2⟩
            have e : j.data.toList = [] := List.eq_nil_of_length_eq_zero (by rw [Array.length_toList]; exact hj0)
            simp [jStep, e]
          · have hje := isEmpty_not j hj0
            obtain ⟨a1, a2, a3, ka, oa, za⟩ := trm_join (J := j ++ ⟨#[32]⟩) bj bv hrow hsz
            have a1c := a1.cell
            have a1f := a1.frozen
            obtain ⟨b1, b2, b3, k1, o1, z1⟩ := trm_join (J := j ++ ⟨#[32]⟩ ++ X) a1 a2 a3 za
            have b2c := b2.cell
            have hc9 := cell_one_new ((wr.setCell ⟨B4, 0, none⟩ (.string (j ++ ⟨#[32]⟩))).setCell ⟨B4, 0, none⟩ (.string (j ++ ⟨#[32]⟩ ++ X))) (.string X) 9
            rw [show ((wr.setCell ⟨B4, 0, none⟩ (.string (j ++ ⟨#[32]⟩))).setCell ⟨B4, 0, none⟩ (.string (j ++ ⟨#[32]⟩ ++ X))).heap.size = wr.heap.size by simp] at hc9
            gi_wp2_with (gi_at_builtin; go_must (refine wpListIn_append_own _ rfl _ _ 45 rfl (B4 + 3) 9 i0 (.string ⟨#[]⟩) 1 16 Tryd.underlying45 hi hz0 hz1 hz2 rfl (by decide) _ _ _ rfl (World.ownsRow.alloc b3 _) ⟨_, 0, none⟩ 1 1 [.string X] rfl rfl hc9 (by simp [Value.oneCell']) (by unfold maxLen; omega) (by omega) (by simp; omega) ?_); intro v' w9 hown' hgrow _; obtain ⟨g', cap', rfl⟩ := ownsRow_succ hown'; obtain ⟨b4, b5, b6, b7, k2, o2, z2⟩ := trm_app b1 b2 b3 z1 hown' hgrow; have b4c := b4.cell; have b4f := b4.frozen)
            have k3 : TrmK B4 wr _ := ⟨(ka.1.trans k1.1).trans k2.1, k2.2.trans (k1.2.trans ka.2)⟩
            refine ⟨(oa.trans o1).trans o2, k3, trmI_next HJ.out ?_ hjs hXm hbs hB b5 b6 b7 k3 z2⟩
            have e : j.data.toList ≠ [] := fun h => hj0 (by have : j.data.toList.length = j.size := by rw [Array.length_toList]; rfl
                                                            rw [← this, h]; rfl)
            simp [jStep, e]
    rotate_left
    · rintro D c pre W _ _ h _
      exact h.elim
    rintro D ys W0p hD hS ⟨j, v, bj, hj, hjs, bv, hrow, hbs, hB, hsz⟩ hK
    have hjw : j.data.toList = joinW ((flds s).map (fldT s)) := by
      rw [hj]
      congr 1
      have e : ys.map (fun x => x.1.2.data.toList) = (ys.map (·.1)).map (fun x => x.2.data.toList) := by rw [List.map_map]; rfl
      rw [e, hS, List.map_map]
      rfl
    have hyl : ys.length = (flds s).length := by
      have := congrArg List.length hS
      simpa using this
    have hLs : ys.map (fun x => Value.string x.1.2) = ((flds s).map fun x => s.extract x.1 x.2).map Value.string := by
      have e : ys.map (fun x => Value.string x.1.2) = (ys.map (·.1)).map (fun x => Value.string x.2) := by rw [List.map_map]; rfl
      rw [e, hS, List.map_map, List.map_map]
      rfl
    have brp : Boxed W0p (w.heap.size + 1) 4 (.bool false) := (hB.block _ hw1).trans brl
    have hBp := hBl.trans (hB.mono hz3)
    obtain ⟨L, hL⟩ : ∃ L, L = (flds s).map (fun x => s.extract x.1 x.2) := ⟨_, rfl⟩
    have hLl : L.length = (flds s).length := by rw [hL, List.length_map]
    have hLm : L.length ≤ 1048576 := by have := flds_len s; omega
    rw [hLs, ← hL, hyl, ← hLl] at hrow
    obtain ⟨va, vc, rfl⟩ : ∃ va vc, v = .slice va L.length vc := by
      rcases strRow_read hrow with ⟨h0, h1⟩ | ⟨g, cap, h1, _⟩
      · exact ⟨none, 0, by rw [h1, h0]; rfl⟩
      · exact ⟨_, _, h1⟩
    have hYj := flds_join hjw
    have hYT : (flds T).map (fldT T) = (flds s).map (fldT s) := by rw [← HTT.out]; exact flds_trim s
    have hLYp := (texts_eq hYj).trans hL.symm
    have hLYq := (texts_eq hYT).trans hL.symm
    have hylp : (flds j).length = L.length := by rw [← hLYp, List.length_map]
    have hylq : (flds T).length = L.length := by rw [← hLYq, List.length_map]
    have HYLp := Lib.hid hylp; have HYLq := Lib.hid hylq
    have hYsp : j.size ≤ 1000000000000000 := by omega
    have hYsq : T.size ≤ 1000000000000000 := by omega
    have hlt0 : B4 + 3 ≤ D := by omega
    have bvp := bv
    have hRp := hrow
    have bjc := bj.cell
    clear hylp hylq hYj hYT hL hLl hLs hyl hjs hj hjw hS hbs hrow bv hB hBl bsl bjl bvl bcl brl
    gi_wp2
    clear bjc bj
    have x0 := idx_zero (.string j) (.string T)
    have x1 := idx_one (.string j) (.string T)
    refine wpIn_loop_rounds 3 ?_
    -- ROUNDS
    rw [roundsIn_succ]
    gi_wp2_with fail
    refine ⟨trivial, ?_⟩
    refine (callsIn_wide.2 (fields_any j _)).mono ?_
    rintro e w9 ⟨rfl, rfl⟩
    have hkp := (Boxed.new W0p 3 (.int .i64 0)).alloc (.cells #[.string j] 9)
    have bcp := Boxed.new (W0p.alloc (.cells #[.int .i64 0] 3)) 9 (.string j)
    rw [World.size_alloc] at bcp
    have hBlp := ((Below.refl W0p.heap.size W0p).alloc (Nat.le_refl _) (.cells #[.int .i64 0] 3)).alloc (by simp) (.cells #[.string j] 9)
    have hzlp : ((W0p.alloc (.cells #[.int .i64 0] 3)).alloc (.cells #[.string j] 9)).heap.size = W0p.heap.size + 2 := by simp
    gi_wp2_with fail
    generalize hWlp : (W0p.alloc (.cells #[.int .i64 0] 3)).alloc (.cells #[.string j] 9) = Wlp at *
    clear hWlp
    refine rangeFU rfl (by decide) (gf := 51) (lb := #[.pointer (some ⟨W0p.heap.size + 1, 0, none⟩)]) rfl trivial (enters_of Tryd.func51 (by kernel_rfl) rfl)
      (fields_stops_ok (3 - 1) (by decide) (W0p.heap.size + 1) j hYsp _ (RndK W0p.heap.size) (fun A C h hA => by rw [← hA]; exact World.cell?_of_block h.2) (by omega) bcp.cell)
      (fun h k => ⟨h.1.trans k.1, k.2.trans h.2⟩) (fun W l o o' hl h h1 h2 => ⟨belowK_b (w := Wlp) (by omega) W l o o' hl h h1 h2, World.putObj_heap_other (by omega)⟩) (Below.refl _ _) (fun _ => rfl)
      (RndI j L W0p Wlp) (fun _ pre _ => ¬ pre.map (fun x => x.1.2) <+: L) (rndI_own j L W0p Wlp hzlp) (fun c => ownFrom_pure _ _)
      ⟨List.nil_prefix, hkp, rfl, hBlp⟩
      (fun x t => t.setIfInBounds 13 (.string x.1.2)) ?_ ?_ ?_ ?_
    · intro l x W K hK
      gi_wp2
      simpa using hK
    · rintro l pre ⟨⟨x1, X⟩, hok⟩ W ⟨hpre, bk, hbs, hB⟩ hlt
      have hlt' : (pre.map (fun x => x.1.2)).length < L.length := by have := HYLp.out; rw [List.length_map]; omega
      have hpl : (pre.map (fun x => x.1.2)).length = pre.length := List.length_map _
      have hsn := prefix_snoc (x := X) hpre hlt'
      have hz := hB.size
      rcases strRow_read hRp with ⟨h0, _⟩ | ⟨g, cap, hv, _, hg, hcap, hmx, hcell⟩
      · rw [h0] at hlt'
        simp at hlt'
      obtain ⟨rfl, rfl⟩ : va = some ⟨g, 0, none⟩ ∧ vc = cap := by simpa using hv
      have hc2 := hcell (pre.map (fun x => x.1.2)).length hlt'
      generalize hy : L[(pre.map (fun x => x.1.2)).length] = y at *
      have HSN := Lib.hid hsn
      clear hsn hcell hy
      rw [hpl] at hc2 hlt'
      have c1 : W.cell? ⟨g, pre.length, none⟩ = some (.string y) := (hB.cell (p := ⟨g, pre.length, none⟩) hg).trans hc2
      have bvW := (boxed_on bvp hB).cell
      have bkc := bk.cell
      have bkf := bk.frozen
      have b0W := boxed_on brp hB
      have b0c := b0W.cell
      have b0f := b0W.frozen
      have hll : L.length ≤ 1048576 := hLm
      have hln : ¬ L.length ≤ pre.length := by omega
      have HLT := Lib.hid hlt
      clear hc2 hlt hpl
      apply act_norm
      · simp
        rfl
      gi_wp2
      all_goals first
        | (rename_i h1
           have h1 : ¬ y.toList = X.toList := by simpa using h1
           exact ⟨KeepsOthers.setCell _ _ _, fun h => h1 (by rw [HSN.out.1 (by simpa using h)])⟩)
        | (rename_i h1
           have h1 : y.toList = X.toList := by simpa using h1
           refine ⟨KeepsOthers.setCell _ _ _, ⟨(Below.refl W0p.heap.size W).setCell (p := ⟨W0p.heap.size, 0, none⟩) (Nat.le_refl _) _, (grownBy_setCell' W W0p.heap.size _).block _ (by have := hzlp; have := (Array.getElem?_eq_some_iff.1 (hbs.trans bcp)).1; omega) (fun e => by have := Option.some.inj e; omega)⟩, ?_, ?_, ?_, hB.setCell (p := ⟨W0p.heap.size, 0, none⟩) (Nat.le_refl _) _⟩
           · rw [List.map_append]
             exact HSN.out.2 (toList_one h1)
           · have := bk.set (.int .i64 ((pre.length : Int) + 1))
             simpa using this
           · exact ((grownBy_setCell' W W0p.heap.size _).block _ (by have := (Array.getElem?_eq_some_iff.1 (hbs.trans bcp)).1; omega) (fun e => by have := Option.some.inj e; omega)).trans hbs)
    rotate_left
    · rintro D c pre W hD hSp hIx hK
      refine absurd ?_ hIx
      obtain ⟨r, hr⟩ := hSp
      refine ⟨r.map (·.2), ?_⟩
      rw [← hLYp, show pre.map (fun x => x.1.2) = (pre.map (·.1)).map (·.2) by rw [List.map_map]; rfl, ← List.map_append, hr, List.map_map]
      rfl
    rintro Dp ysp W1p hDp hSp ⟨_, bkp, hbsp, hB1p⟩ hKp
    have hylp : ysp.length = L.length := by
      have h1 := congrArg List.length hSp
      have h2 := HYLp.out
      simp at h1
      omega
    rw [hylp] at bkp
    have hz1p := hB1p.size
    have bv1p := boxed_on bvp hB1p
    have bvcp := bv1p.cell
    have bkcp := bkp.cell
    gi_wp2
    have brq := boxed_on brp hB1p
    have bvq := boxed_on bvp hB1p
    have hRq : W1p.ownsRow (B4 + 3) 9 1 (.slice va L.length vc) L.length (L.map Value.string) := own_later hRp hB1p
    have hBq := hBp.trans (hB1p.mono hBp.size)
    have hlp := brp.lt
    have hK0p := (hB1p.block D (Array.getElem?_eq_some_iff.1 hK).1).trans hK
    have hdD := (Array.getElem?_eq_some_iff.1 hK).1
    clear bv1p bvcp bkcp hkp bkp
    generalize hW0q : W1p = W0q at *
    clear hW0q
    rw [roundsIn_succ]
    gi_wp2_with fail
    refine ⟨trivial, ?_⟩
    refine (callsIn_wide.2 (fields_any T _)).mono ?_
    rintro e w9 ⟨rfl, rfl⟩
    have hkq := (Boxed.new W0q 3 (.int .i64 0)).alloc (.cells #[.string T] 9)
    have bcq := Boxed.new (W0q.alloc (.cells #[.int .i64 0] 3)) 9 (.string T)
    rw [World.size_alloc] at bcq
    have hBlq := ((Below.refl W0q.heap.size W0q).alloc (Nat.le_refl _) (.cells #[.int .i64 0] 3)).alloc (by simp) (.cells #[.string T] 9)
    have hzlq : ((W0q.alloc (.cells #[.int .i64 0] 3)).alloc (.cells #[.string T] 9)).heap.size = W0q.heap.size + 2 := by simp
    gi_wp2_with fail
    generalize hWlq : (W0q.alloc (.cells #[.int .i64 0] 3)).alloc (.cells #[.string T] 9) = Wlq at *
    clear hWlq
    refine rangeFU rfl (by decide) (gf := 51) (lb := #[.pointer (some ⟨W0q.heap.size + 1, 0, none⟩)]) rfl trivial (enters_of Tryd.func51 (by kernel_rfl) rfl)
      (fields_stops_ok (3 - 1) (by decide) (W0q.heap.size + 1) T hYsq _ (RndK W0q.heap.size) (fun A C h hA => by rw [← hA]; exact World.cell?_of_block h.2) (by omega) bcq.cell)
      (fun h k => ⟨h.1.trans k.1, k.2.trans h.2⟩) (fun W l o o' hl h h1 h2 => ⟨belowK_b (w := Wlq) (by omega) W l o o' hl h h1 h2, World.putObj_heap_other (by omega)⟩) (Below.refl _ _) (fun _ => rfl)
      (RndI T L W0q Wlq) (fun _ pre _ => ¬ pre.map (fun x => x.1.2) <+: L) (rndI_own T L W0q Wlq hzlq) (fun c => ownFrom_pure _ _)
      ⟨List.nil_prefix, hkq, rfl, hBlq⟩
      (fun x t => t.setIfInBounds 13 (.string x.1.2)) ?_ ?_ ?_ ?_
    · intro l x W K hK
      gi_wp2
      simpa using hK
    · rintro l pre ⟨⟨x1, X⟩, hok⟩ W ⟨hpre, bk, hbs, hB⟩ hlt
      have hlt' : (pre.map (fun x => x.1.2)).length < L.length := by have := HYLq.out; rw [List.length_map]; omega
      have hpl : (pre.map (fun x => x.1.2)).length = pre.length := List.length_map _
      have hsn := prefix_snoc (x := X) hpre hlt'
      have hz := hB.size
      rcases strRow_read hRq with ⟨h0, _⟩ | ⟨g, cap, hv, _, hg, hcap, hmx, hcell⟩
      · rw [h0] at hlt'
        simp at hlt'
      obtain ⟨rfl, rfl⟩ : va = some ⟨g, 0, none⟩ ∧ vc = cap := by simpa using hv
      have hc2 := hcell (pre.map (fun x => x.1.2)).length hlt'
      generalize hy : L[(pre.map (fun x => x.1.2)).length] = y at *
      have HSN := Lib.hid hsn
      clear hsn hcell hy
      rw [hpl] at hc2 hlt'
      have c1 : W.cell? ⟨g, pre.length, none⟩ = some (.string y) := (hB.cell (p := ⟨g, pre.length, none⟩) hg).trans hc2
      have bvW := (boxed_on bvq hB).cell
      have bkc := bk.cell
      have bkf := bk.frozen
      have b0W := boxed_on brq hB
      have b0c := b0W.cell
      have b0f := b0W.frozen
      have hll : L.length ≤ 1048576 := hLm
      have hln : ¬ L.length ≤ pre.length := by omega
      have HLT := Lib.hid hlt
      clear hc2 hlt hpl
      apply act_norm
      · simp
        rfl
      gi_wp2
      all_goals first
        | (rename_i h1
           have h1 : ¬ y.toList = X.toList := by simpa using h1
           exact ⟨KeepsOthers.setCell _ _ _, fun h => h1 (by rw [HSN.out.1 (by simpa using h)])⟩)
        | (rename_i h1
           have h1 : y.toList = X.toList := by simpa using h1
           refine ⟨KeepsOthers.setCell _ _ _, ⟨(Below.refl W0q.heap.size W).setCell (p := ⟨W0q.heap.size, 0, none⟩) (Nat.le_refl _) _, (grownBy_setCell' W W0q.heap.size _).block _ (by have := hzlq; have := (Array.getElem?_eq_some_iff.1 (hbs.trans bcq)).1; omega) (fun e => by have := Option.some.inj e; omega)⟩, ?_, ?_, ?_, hB.setCell (p := ⟨W0q.heap.size, 0, none⟩) (Nat.le_refl _) _⟩
           · rw [List.map_append]
             exact HSN.out.2 (toList_one h1)
           · have := bk.set (.int .i64 ((pre.length : Int) + 1))
             simpa using this
           · exact ((grownBy_setCell' W W0q.heap.size _).block _ (by have := (Array.getElem?_eq_some_iff.1 (hbs.trans bcq)).1; omega) (fun e => by have := Option.some.inj e; omega)).trans hbs)
    rotate_left
    · rintro D c pre W hD hSp hIx hK
      refine absurd ?_ hIx
      obtain ⟨r, hr⟩ := hSp
      refine ⟨r.map (·.2), ?_⟩
      rw [← hLYq, show pre.map (fun x => x.1.2) = (pre.map (·.1)).map (·.2) by rw [List.map_map]; rfl, ← List.map_append, hr, List.map_map]
      rfl
    rintro Dq ysq W1q hDq hSq ⟨_, bkq, hbsq, hB1q⟩ hKq
    have hylq : ysq.length = L.length := by
      have h1 := congrArg List.length hSq
      have h2 := HYLq.out
      simp at h1
      omega
    rw [hylq] at bkq
    have hz1q := hB1q.size
    have bv1q := boxed_on bvq hB1q
    have bvcq := bv1q.cell
    have bkcq := bkq.cell
    gi_wp2
    have brr := boxed_on brq hB1q
    have hBr := hBq.trans (hB1q.mono hBq.size)
    have hlq := brq.lt
    have hKp' := (hB1q.block Dp (Array.getElem?_eq_some_iff.1 hKp).1).trans hKp
    have hK0q := (hB1q.block D (Array.getElem?_eq_some_iff.1 hK0p).1).trans hK0p
    have b0c := brr.cell
    have b0f := brr.frozen
    have hdp := (Array.getElem?_eq_some_iff.1 hKp).1
    have hd0 := hlt0
    clear bv1q bvcq bkcq hkq bkq
    rw [roundsIn_succ]
    gi_wp2
    have ks := KeepsOthers.setCell W1q ⟨w.heap.size + 1, 0, none⟩ (.bool true)
    have hB' := hBr.setCell (p := ⟨w.heap.size + 1, 0, none⟩) (Nat.le_succ _) (.bool true)
    have bT := brr.set (.bool true)
    refine leaves_marks (w0 := w) [Dq, Dp, D] _ (fun E hE => ?_) ?_ (fun w' hb hk => ?_)
    · simp only [List.mem_cons, List.not_mem_nil, or_false] at hE
      rcases hE with rfl | rfl | rfl
      · exact ⟨by omega, ks.same _ _ hKq rfl⟩
      · exact ⟨by omega, ks.same _ _ hKp' rfl⟩
      · exact ⟨by omega, ks.same _ _ hK0q rfl⟩
    · simp only [List.nodup_cons, List.mem_cons, List.not_mem_nil, or_false, not_or, List.nodup_nil, not_false_iff, and_true]
      omega
    · have hc5 : w'.cell? ⟨w.heap.size + 1, 0, none⟩ = some (.bool true) := by
        have h := hk (w.heap.size + 1) (by simp only [List.mem_cons, List.not_mem_nil, or_false, not_or]; omega)
        exact (World.cell?_of_block h).trans bT.cell
      refine ⟨.bool true, ?_, rfl, hB'.trans hb⟩
      simp [results, Tryd.f9, go_sem, hc5]
end Go.Proofs.YtdihhicjaaekhaaDoor
