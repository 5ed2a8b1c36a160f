/-
  Rules for numbers: what the row says that the library's variables read as.
-/
import Derived.Test.YtgbemhehbhlgpaaGreatDoorPlBk
import Derived.Test.YtgbemhehbhlgpaaGreatDoorRows
import Derived.Lib.LaidTab
import Derived.Lib.LaidU8
namespace Go.Proofs.YtgbemhehbhlgpaaGreatDoor
open Go.Shelf Go.RowKit Go.Sort Go.Lib

theorem pow_data : (Rows.laid_internal_strconv_uint64pow10 : DataW Unit) = Lib.tabData .u64 Lib.pow10Tab := by kernel_rfl
theorem pow_of_reads {w : World} (h : Lib.VarReads Tryz.prog w "internal/strconv.uint64pow10" Rows.laid_internal_strconv_uint64pow10) : PowTab w := by
  obtain ⟨g', t', cs, fuel, p, hg', ht', hvar, hd⟩ := h
  have hg : Tryz.prog.globalNamed "internal/strconv.uint64pow10" = some 2 := by kernel_rfl
  have hty : (Tryz.prog.globals[2]?).map (·.type) = some 204 := by kernel_rfl
  obtain rfl := Option.some.inj (hg.symm.trans hg')
  obtain rfl := Option.some.inj (hty.symm.trans ht')
  rw [pow_data] at hd
  unfold PowTab Lib.TabIs
  rw [hvar, ← Lib.cells_of_tab Tryz.underlying204 Tryz.underlying161 (by kernel_rfl) (by kernel_rfl) hd]
theorem sp_data : (Rows.laid_strings_asciiSpace : DataW Unit) = Lib.tabData .u8 Lib.asciiSpaceTab := by kernel_rfl
theorem sp_of_reads {w : World} (h : Lib.VarReads Tryz.prog w "strings.asciiSpace" Rows.laid_strings_asciiSpace) : SpTab w := by
  obtain ⟨g', t', cs, fuel, p, hg', ht', hvar, hd⟩ := h
  have hg : Tryz.prog.globalNamed "strings.asciiSpace" = some 0 := by kernel_rfl
  have hty : (Tryz.prog.globals[0]?).map (·.type) = some 112 := by kernel_rfl
  obtain rfl := Option.some.inj (hg.symm.trans hg')
  obtain rfl := Option.some.inj (hty.symm.trans ht')
  rw [sp_data] at hd
  unfold SpTab Lib.TabIs
  rw [hvar, ← Lib.cells_of_tab Tryz.underlying112 Tryz.underlying5 (by kernel_rfl) (by kernel_rfl) hd]
set_option maxRecDepth 100000 in
theorem err_of_reads {w : World} (h : Lib.VarReads Tryz.prog w "strconv.ErrSyntax" Rows.laid_strconv_ErrSyntax) : ∃ ev, w.cell? ⟨3, 0, none⟩ = some ev ∧ (ev = .nilIface ∨ ∃ te pe, ev = .iface te pe) := by
  obtain ⟨g', t', cs, fuel, p, hg', ht', hvar, hd⟩ := h
  have hg : Tryz.prog.globalNamed "strconv.ErrSyntax" = some 3 := by kernel_rfl
  have hty : (Tryz.prog.globals[3]?).map (·.type) = some 99 := by kernel_rfl
  obtain rfl := Option.some.inj (hg.symm.trans hg')
  obtain rfl := Option.some.inj (hty.symm.trans ht')
  have hc := World.var?_cell hg hvar 0
  cases fuel with
  | zero => simp [DataW.trod] at hd
  | succ fuel =>
    simp only [DataW.trod, Tryz.underlying99] at hd
    have hl : ∀ ev, cs.toList = [ev] → w.cell? ⟨3, 0, none⟩ = some ev := fun ev h => by
      rw [hc, ← Array.getElem?_toList, h]
      rfl
    generalize cs.toList = l at *
    match l, hd with
    | [.nilIface], _ => exact ⟨_, hl _ rfl, .inl rfl⟩
    | [.iface u v], _ => exact ⟨_, hl _ rfl, .inr ⟨u, v, rfl⟩⟩
theorem SpTab.on {w w' : World} (h : SpTab w) (hB : Below w.heap.size w w') : SpTab w' := by
  have hg : Tryz.prog.globalNamed "strings.asciiSpace" = some 0 := by kernel_rfl
  refine var?_below hB hg ?_ h
  have h2 := h
  unfold SpTab Lib.TabIs World.var? at h2
  rw [hg] at h2
  simp only [Option.bind_some] at h2
  by_cases hlt : 0 < w.heap.size
  · exact hlt
  · rw [Array.getElem?_eq_none (by omega)] at h2
    cases h2
/-- All that rules ask of the library's variables. -/
theorem pw_of_reads {w : World} (h1 : Lib.VarReads Tryz.prog w "internal/strconv.uint64pow10" Rows.laid_internal_strconv_uint64pow10) (h2 : Lib.VarReads Tryz.prog w "strconv.ErrSyntax" Rows.laid_strconv_ErrSyntax) (h3 : Lib.VarReads Tryz.prog w "strings.asciiSpace" Rows.laid_strings_asciiSpace) :
    ∀ W, Below w.heap.size w W → PG W ∧ SpTab W := fun _ hW =>
  ⟨PG.on ⟨pow_of_reads h1, err_of_reads h2⟩ hW, SpTab.on (sp_of_reads h3) hW⟩
end Go.Proofs.YtgbemhehbhlgpaaGreatDoor
