/-
  The categories of a set that is not there: the one word other.
-/
import Derived.Test.YtgbemhehbhlgpaaGreatDoorPlNc
namespace Go.Proofs.YtgbemhehbhlgpaaGreatDoor
open Go.RowKit Go.Shelf Go.PlainAid
attribute [local go_sem] Oper.semAt_some

theorem ownsRow_base {W : World} {N M : Nat} {e : TypeId} {size : Nat} {v : Value} {k : Nat} {xs : List Value} (h : W.ownsRow N e size v k xs) (hM : M ≤ N) : W.ownsRow M e size v k xs := by
  refine ⟨h.1, ?_⟩
  rcases h.2 with h2 | ⟨g, cap, cur, hv, hg, r⟩
  · exact .inl h2
  · exact .inr ⟨g, cap, cur, hv, Nat.le_trans hM hg, r⟩
/-- Behind an append to a boxed slice whose row lies at N or behind it: what is kept below N. -/
theorem appendedX {W w1 : World} {N B : Nat} {t e : TypeId} {size : Nat} {v v' : Value} {k m : Nat} {xs ys : List Value} {tmp : Obj}
    (hv : Boxed W B t v) (hte : t ≠ e) (hrow : W.ownsRow N e size v k xs) (hN : N ≤ W.heap.size)
    (hown' : w1.ownsRow N e size v' m ys) (hgrow : (W.alloc tmp).grownBy w1 v.ownBlock) :
    Boxed w1 B t v ∧ Boxed (w1.setCell ⟨B, 0, none⟩ v') B t v' ∧ (w1.setCell ⟨B, 0, none⟩ v').ownsRow N e size v' m ys ∧ KeepsOthers W (w1.setCell ⟨B, 0, none⟩ v') ∧ KeepX N B W (w1.setCell ⟨B, 0, none⟩ v') := by
  obtain ⟨h1, h2, _, h4, _⟩ := hv.appended hte (ownsRow_base hrow (Nat.zero_le N)) (Nat.zero_le _) (Nat.zero_le _) (ownsRow_base hown' (Nat.zero_le N)) hgrow
  refine ⟨h1, h2, hown'.kept (grownBy_setCell' w1 B v') (.inr (h1.not_row hte hown').symm), h4, ?_⟩
  refine (((KeepX.refl N B W).grown (World.grownBy_alloc W tmp none) hN (by simp)).grown hgrow (by simp; omega) (fun j ej => ?_)).setCell v'
  rcases hrow.2 with ⟨rfl, _⟩ | ⟨g, cap, cur, rfl, hb, _, _⟩
  · simp [Value.ownBlock] at ej
  · have : g = j := by simpa [Value.ownBlock] using ej
    omega
/-- Of what has come, what is the word other. -/
def oth (xs : List ByteArray) : List ByteArray := xs.filter fun x => decide (x = otherB)
theorem oth_hit (pre : List ByteArray) {x : ByteArray} (h : x = otherB) : oth (pre ++ [x]) = oth pre ++ [x] := by simp [oth, h]
theorem oth_miss (pre : List ByteArray) {x : ByteArray} (h : x ≠ otherB) : oth (pre ++ [x]) = oth pre := by simp [oth, h]
theorem oth_six : oth six = [otherB] := by decide +kernel
theorem infoS : (Tryz.prog.info? 9).map (fun i => (i.zero, i.size, i.bytes)) = some (some (.string ⟨#[]⟩), 1, 16) := by kernel_rfl

set_option maxRecDepth 100000 in
set_option maxHeartbeats 4000000 in
theorem setCats_nil (w : World) (hT : ∀ W, Below w.heap.size w W → SpTab W) :
    Calls Tryz.prog 14 #[.pointer none] w fun e w' => (∃ g cap, e = .returned (.slice (some ⟨g, 0, none⟩) 1 cap) ∧ w'.cell? ⟨g, 0, none⟩ = some (.string otherB) ∧ g < w'.heap.size) ∧ Below w.heap.size w w' := by
  obtain ⟨i0, hi, hz0, hz1, hz2⟩ := info_parts infoS
  have hA0 := ((Below.refl w.heap.size w).alloc (Nat.le_refl _) (.cells #[.pointer none] 30)).alloc (by simp) (.cells #[.slice none 0 0] 31)
  have bL0 := Boxed.new (w.alloc (.cells #[.pointer none] 30)) 31 (.slice none 0 0)
  have bS0 := (Boxed.new w 30 (.pointer none)).alloc (.cells #[.slice none 0 0] 31)
  have z0 : ((w.alloc (.cells #[.pointer none] 30)).alloc (.cells #[.slice none 0 0] 31)).heap.size = w.heap.size + 2 := by simp
  rw [World.size_alloc] at bL0
  generalize hw0 : (w.alloc (.cells #[.pointer none] 30)).alloc (.cells #[.slice none 0 0] 31) = w0 at *
  have HW0 := Lib.hid hw0
  have hca := cats_any w0 (hT _ hA0)
  clear hw0
  refine (callsIn_wide (n := 3)).1 ?_
  refine callsIn_of_wp_marks Tryz.func14 rfl trivial ?_ rfl
  simp only [Tryz.ntmps14, List.size_toArray, List.length_cons, List.length_nil, Nat.reduceAdd, Nat.reduceSub, Array.replicate_succ, Array.replicate_zero, List.push_toArray, List.append_toArray, List.nil_append, List.cons_append]
  gi_wp2_with fail
  rw [HW0.out]
  refine ⟨trivial, ?_⟩
  refine (callsIn_wide.2 hca).mono ?_
  rintro e w1 ⟨rfl, rfl⟩
  have bL := boxed_on bL0 (catW_below w0)
  have bS := boxed_on bS0 (catW_below w0)
  have zc := catW_size w0
  have hAc := hA0.trans ((catW_below w0).mono (by omega))
  have hst := cats_stops (3 - 1) (by decide) w0 (catW w0) (Below.refl _ _) (KeepX (w.heap.size + 4) (w.heap.size + 1)) (fun A B j h => h.cell (by omega) (by omega))
  rw [z0] at hst zc
  clear bL0 bS0 hca
  gi_wp2_with fail
  refine rangeFU rfl (by decide) (gf := 51) (lb := #[.pointer (some ⟨w.heap.size + 2 + 1, 0, none⟩)]) rfl trivial (enters_of Tryz.func51 (by kernel_rfl) rfl)
    hst KeepX.trans (keepX_b (by omega)) (Below.refl _ _) (fun _ => rfl)
    (fun pre W => (∃ v, Boxed W (w.heap.size + 1) 31 v ∧ W.ownsRow (w.heap.size + 4) 9 1 v (oth pre).length ((oth pre).map Value.string) ∧ True) ∧ KeepX (w.heap.size + 4) (w.heap.size + 1) (catW w0) W)
    (fun _ _ _ => False)
    (OwnFrom.and (Own.from (holdsRow_own (w.heap.size + 4) (w.heap.size + 1) 31 9 1 (fun pre => (oth pre).length) (fun pre => (oth pre).map Value.string) (fun _ _ => True)) _) (ownFrom_keepX (by omega) (by omega)))
    (fun _ _ _ _ _ hs _ _ => hs)
    ⟨⟨_, bL, World.ownsRow_nil _ _ _ _, trivial⟩, KeepX.refl _ _ _⟩
    (fun x t => t.setIfInBounds 4 (.string x)) ?_ ?_ ?_ ?_
  · intro l x W K hK
    gi_wp2
    simpa using hK
  · rintro l pre x W ⟨⟨v, hv, hrow, _⟩, hB⟩ hlt
    have hc := hv.cell
    have cS := (hB.boxed bS (by omega) (by omega)).cell
    have hpl : (oth pre).length ≤ pre.length := List.length_filter_le _ _
    have hsz := hB.size
    by_cases hx : x = otherB
    · have e1 : (x.toList == [111, 116, 104, 101, 114]) = true := tl_yes hx
      have HX := Lib.hid hx
      clear hx
      gi_wp2_with (gi_at_builtin; refine wpListIn_append_own _ rfl _ _ 31 rfl (w.heap.size + 4) 9 i0 (.string ⟨#[]⟩) 1 16 Tryz.underlying31 hi hz0 hz1 hz2 rfl (by decide) _ _ _ rfl (hrow.alloc _) ⟨W.heap.size, 0, none⟩ 1 1 [.string x] rfl rfl (cell_one_new _ _ _) (by simp [Value.oneCell']) (by unfold maxLen; omega) (by omega) (by simp; omega) ?_; intro v' w1 hown' hgrow _; obtain ⟨g', cap', rfl⟩ := ownsRow_succ hown'; obtain ⟨hv1, hv2, hr2, hk2, hb2⟩ := appendedX hv (by decide) hrow (by omega) hown' hgrow; have hc1 := hv1.cell; have hf1 := hv1.frozen)
      exact ⟨hk2, hb2, ⟨_, hv2, by rw [oth_hit pre HX.out]; simpa using hr2, trivial⟩, hB.trans hb2⟩
    · have e1 : (x.toList == [111, 116, 104, 101, 114]) = false := tl_no hx
      have HX := Lib.hid hx
      clear hx
      gi_wp2
      exact ⟨KeepsOthers.refl _, KeepX.refl _ _ _, ⟨v, hv, by rw [oth_miss pre HX.out]; exact hrow, trivial⟩, hB⟩
  · rintro D ys W hD rfl ⟨⟨v, hv, hrow, _⟩, hB⟩ hK
    have hc := hv.cell
    rw [oth_six] at hrow
    obtain ⟨g, cap, rfl⟩ := ownsRow_succ hrow
    gi_wp2
    refine ⟨by simp, .inl ⟨_, _, rfl, run_takeDeferred hK, ?_⟩⟩
    have hr2 := ownsRow_putObj hrow (.deferred none) hK rfl
    have h1 : (W.putObj D (.deferred none)).cell? ⟨g, 0, none⟩ = some (.string otherB) := by
      rw [World.ownsRow.cellAt hr2 0 (by decide)]
      rfl
    have hgl : g < (W.putObj D (.deferred none)).heap.size := by
      rcases hr2.2 with ⟨h, _⟩ | ⟨g2, cap2, cur, h, _, hh, _⟩
      · cases h
      · obtain rfl : g = g2 := by simpa using (show Value.slice (some ⟨g, 0, none⟩) _ _ = _ from h) |> fun h => (Value.slice.inj h).1
        exact (Array.getElem?_eq_some_iff.1 hh).1
    exact ⟨_, results_tmp rfl _ _ _, ⟨g, cap, rfl, h1, hgl⟩, (hAc.trans (hB.below (by omega) (by omega))).trans (belowK_b (w := catW w0) (by omega) W D _ _ hD hK rfl rfl)⟩
  · rintro D c pre W _ _ h _
    exact h.elim
end Go.Proofs.YtgbemhehbhlgpaaGreatDoor
