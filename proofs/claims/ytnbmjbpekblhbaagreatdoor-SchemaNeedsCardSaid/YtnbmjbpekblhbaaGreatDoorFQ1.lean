/- SchemaNeeds, reckoned: a quarter of the names. -/
import Derived.Test.YtnbmjbpekblhbaaGreatDoorMC
set_option linter.all false
namespace Go.Ka
set_option maxRecDepth 100000
theorem needs1 : ((List.range 64).all fun n => (List.range 6).all fun k => s_brooklaw4_SchemaNeeds (UInt8.ofNat (64 + n)) (UInt8.ofNat k) == some true) = true := by decide +kernel
end Go.Ka
