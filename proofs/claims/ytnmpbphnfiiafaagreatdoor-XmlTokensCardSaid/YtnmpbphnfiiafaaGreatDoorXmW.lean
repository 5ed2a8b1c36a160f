/-
  Does the layer do anything? It does.
-/
import Derived.Test.YtnmpbphnfiiafaaGreatDoorXmK9
namespace Go.Proofs.YtnmpbphnfiiafaaGreatDoor
open Go.RowKit Go.PlainAid

theorem wk1 : tokensX ⟨#[60, 97, 32, 98, 61, 39, 49, 39, 62, 120, 60, 47, 97, 62]⟩ = .ok 14 [⟨1, ⟨#[97]⟩, [(⟨#[98]⟩, ⟨#[49]⟩)], ⟨#[]⟩, 0⟩, ⟨3, ⟨#[]⟩, [], ⟨#[120]⟩, 9⟩, ⟨2, ⟨#[97]⟩, [], ⟨#[]⟩, 10⟩] := by kernel_rfl
theorem wk2 : escT ⟨#[60]⟩ = ⟨#[38, 108, 116, 59]⟩ := by kernel_rfl
theorem wk3 : takenE ⟨#[60]⟩ = 0 := by kernel_rfl
theorem tokens_any (s : ByteArray) (w : World) (hG : Gx w) : Calls Tryz.prog 14 #[.string s] w fun en w' => TokEnd s w en w' := by
  by_cases h : 262144 < s.size
  · exact tokens_long s w h
  · exact tokens_short s w (by omega) hG

set_option maxRecDepth 100000 in
set_option maxHeartbeats 4000000 in
theorem wakes_any (w : World) (hG : Gx w) :
    Calls Tryz.prog 12 #[] w fun e w' => e = .returned (.bool true) ∧ Below w.heap.size w w' := by
  have htk := tokens_any ⟨#[60, 97, 32, 98, 61, 39, 49, 39, 62, 120, 60, 47, 97, 62]⟩ w hG
  have HTK := Lib.hid htk
  have HES := Lib.hid (fun W => escape_any ⟨#[60]⟩ W (by decide))
  clear htk
  go_enter Tryz.func12, Tryz.ntmps12
  go_wp2_with fail
  refine HTK.out.mono ?_
  intro e w1 hE
  unfold TokEnd at hE
  rw [wk1] at hE
  obtain ⟨v, rfl, ⟨ms, hrow, hml, hms⟩, hB1⟩ := hE
  obtain ⟨g, cap, hv, hcells⟩ : ∃ g cap, v = .slice (some ⟨g, 0, none⟩) 3 cap ∧ ∃ (h : 0 < ms.length), w1.cell? ⟨g, 1, none⟩ = some (.string ms[0].name) ∧ w1.cell? ⟨g, 2, none⟩ = some (.slice ms[0].aa ms[0].an ms[0].ac) := by
    rcases hrow.read with ⟨e, _⟩ | ⟨g, cap, hv, _, _, _, _, hc⟩
    · rw [e] at hml; simp at hml
    · have h0 : 0 < ms.length := by rw [hml]; simp
      refine ⟨g, cap, by rw [hv, hml]; rfl, h0, ?_, ?_⟩
      · exact hc 0 h0 1 (by decide)
      · exact hc 0 h0 2 (by decide)
  obtain ⟨h0, hc1, hc2⟩ := hcells
  have hok := hms 0 h0 (by decide)
  have hnm : ms[0].name = ⟨#[97]⟩ := hok.name
  rcases hok.attrs.read with ⟨e, _⟩ | ⟨ag, acap, hav, _, _, _, _, hac⟩
  · cases e
  have ha1 : w1.cell? ⟨ag, 1, none⟩ = some (.string ⟨#[49]⟩) := hac 0 (by decide) 1 (by decide)
  rw [hnm] at hc1
  rw [hav] at hc2
  subst hv
  have HC := Lib.hid (And.intro hc1 (And.intro hc2 ha1)); have HB1 := Lib.hid hB1
  clear hrow hml hms hok hnm hav hac hc1 hc2 ha1 hB1 HTK h0
  go_wp2_with fail
  have hes := HES.out (w1.alloc (.cells #[.int .i64 0, .int .i64 0] 26))
  rw [wk2, wk3] at hes
  refine hes.mono ?_
  rintro e w2 ⟨rfl, hB2⟩
  have hA := (Below.refl w1.heap.size w1).alloc (Nat.le_refl _) (.cells #[.int .i64 0, .int .i64 0] 26)
  have hB12 : Below w1.heap.size w1 w2 := hA.trans (hB2.mono hA.size)
  have hc1 := cell_kept HC.out.1 hB12
  have hc2 := cell_kept HC.out.2.1 hB12
  have ha1 := cell_kept HC.out.2.2 hB12
  have t0 : w2.cell? ⟨w1.heap.size, 0, none⟩ = some (.int .i64 0) := cell_kept ((Blk.new w1 #[.int .i64 0, .int .i64 0] 26).cell 0) hB2
  have t1 : w2.cell? ⟨w1.heap.size, 1, none⟩ = some (.int .i64 0) := cell_kept ((Blk.new w1 #[.int .i64 0, .int .i64 0] 26).cell 1) hB2
  have HB2 := Lib.hid (HB1.out.trans (hB12.mono HB1.out.size))
  clear hes hA hB12 hB2 HC HES
  go_wp2_with fail
  go_ret
  exact ⟨rfl, HB2.out⟩
end Go.Proofs.YtnmpbphnfiiafaaGreatDoor
