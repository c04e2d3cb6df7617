/- SchemaFirst, reckoned: a quarter of the names. -/
import Derived.Test.YtnbmjbpekblhbaaGreatDoorPW
set_option linter.all false
namespace Go.Ka
set_option maxRecDepth 100000
theorem first2 : ((List.range 64).all fun n => (List.range 36).all fun k => s_brooklaw4_SchemaFirst (UInt8.ofNat (128 + n)) (UInt8.ofNat k) == some true) = true := by decide +kernel
end Go.Ka
