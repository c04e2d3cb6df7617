/- SchemaClasses, reckoned: whatever the number, true. -/
import Derived.Test.YtnbmjbpekblhbaaGreatDoorFL
set_option linter.all false
namespace Go.Ka
set_option maxRecDepth 100000
theorem classes_all : ((List.range 256).all fun n => s_brooklaw4_SchemaClasses (UInt8.ofNat n) == some true) = true := by decide +kernel
theorem classes_law (n : UInt8) : s_brooklaw4_SchemaClasses n = some true := eq_of_beq (u8_all (p := fun n => s_brooklaw4_SchemaClasses n == some true) classes_all n)
end Go.Ka
