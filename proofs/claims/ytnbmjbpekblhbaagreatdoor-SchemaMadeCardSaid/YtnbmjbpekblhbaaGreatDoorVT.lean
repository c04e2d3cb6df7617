/- What the listed variables read as, for the walk. -/
import Derived.Test.YtnbmjbpekblhbaaGreatDoorMD
import Derived.Test.YtnbmjbpekblhbaaGreatDoorMB
import Derived.Test.YtnbmjbpekblhbaaGreatDoorRows
set_option linter.all false
namespace Go.Ka
open Go.Proofs Go.Proofs.YtnbmjbpekblhbaaGreatDoor

theorem gPow : Tryz.prog.globalNamed "internal/strconv.uint64pow10" = some 7 := by kernel_rfl
theorem gAsc : Tryz.prog.globalNamed "strings.asciiSpace" = some 0 := by kernel_rfl
theorem gSyn : Tryz.prog.globalNamed "strconv.ErrSyntax" = some 5 := by kernel_rfl
theorem gRng : Tryz.prog.globalNamed "strconv.ErrRange" = some 6 := by kernel_rfl
/-- The four that are read. -/
structure Four (W : World) : Prop where
  pow : Lib.VarReads Tryz.prog W "internal/strconv.uint64pow10" (Lib.tabData .u64 Lib.pow10Tab)
  asc : Lib.VarReads Tryz.prog W "strings.asciiSpace" (Lib.tabData .u8 Lib.asciiSpaceTab)
  syn : Lib.VarReads Tryz.prog W "strconv.ErrSyntax" Rows.laid_strconv_ErrSyntax
  rng : Lib.VarReads Tryz.prog W "strconv.ErrRange" Rows.laid_strconv_ErrRange
theorem dPow : (Rows.laid_internal_strconv_uint64pow10 : DataW Unit) = Lib.tabData .u64 Lib.pow10Tab := by kernel_rfl
theorem dAsc : (Rows.laid_strings_asciiSpace : DataW Unit) = Lib.tabData .u8 Lib.asciiSpaceTab := by kernel_rfl

abbrev tabW (W : World) : Tab := tabOf W [5, 6] [7, 0]
theorem tabsW {W : World} (h : Four W) : @Tabs (tabW W) := by
  have hp : Lib.TabIs Tryz.prog W "internal/strconv.uint64pow10" .u64 Lib.pow10Tab := tab_of_reads (n := 20) (t := 203) (e := 76) gPow (by kernel_rfl) (by kernel_rfl) (by kernel_rfl) (by kernel_rfl) (by kernel_rfl) h.pow
  have ha : Lib.TabIs Tryz.prog W "strings.asciiSpace" .u8 Lib.asciiSpaceTab := tab_of_reads (n := 256) (t := 96) (e := 5) gAsc (by kernel_rfl) (by kernel_rfl) (by kernel_rfl) (by kernel_rfl) (by kernel_rfl) h.asc
  obtain ⟨t1, v1, h1⟩ := iface_of_reads (t := 107) (ms := Tryz.prog.methodsAt 107) gSyn (by kernel_rfl) (by kernel_rfl) h.syn
  obtain ⟨t2, v2, h2⟩ := iface_of_reads (t := 107) (ms := Tryz.prog.methodsAt 107) gRng (by kernel_rfl) (by kernel_rfl) h.rng
  exact @Tabs.mk (tabW W) (fun w hw => tabOf_var gPow (by decide) (by decide) hw hp) (fun w hw => tabOf_var gAsc (by decide) (by decide) hw ha)
    (fun w hw => ⟨t1, v1, tabOf_cell (by decide) hw h1⟩) (fun w hw => ⟨t2, v2, tabOf_cell (by decide) hw h2⟩)
end Go.Ka
