/-
  The table of powers of ten, from what the row says of the world.
-/
import Derived.Test.YtgccppilhbannaaDoorFmtU
import Derived.Test.YtgccppilhbannaaDoorRows
import Derived.Lib.LaidTab
import Derived.Lib.LaidU8
namespace Go.Proofs.YtgccppilhbannaaDoor
open Go.Shelf Go.RowKit Go.Sort Go.Lib

theorem pow_data : (Rows.laid_internal_strconv_uint64pow10 : DataW Unit) = Lib.tabData .u64 Lib.pow10Tab := by kernel_rfl
theorem pow_of_reads {w : World} (h : Lib.VarReads Tryd.prog w "internal/strconv.uint64pow10" Rows.laid_internal_strconv_uint64pow10) : PowTab w := by
  obtain ⟨g', t', cs, fuel, p, hg', ht', hvar, hd⟩ := h
  have hg : Tryd.prog.globalNamed "internal/strconv.uint64pow10" = some 2 := by kernel_rfl
  have hty : (Tryd.prog.globals[2]?).map (·.type) = some 143 := by kernel_rfl
  obtain rfl := Option.some.inj (hg.symm.trans hg')
  obtain rfl := Option.some.inj (hty.symm.trans ht')
  rw [pow_data] at hd

  unfold PowTab Lib.TabIs
  rw [hvar, ← Lib.cells_of_tab Tryd.underlying143 Tryd.underlying60 (by kernel_rfl) (by kernel_rfl) hd]
end Go.Proofs.YtgccppilhbannaaDoor
