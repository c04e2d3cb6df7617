/- SchemaNeeds, reckoned: what depends on `which` is one remainder. -/
import Derived.Test.YtnbmjbpekblhbaaGreatDoorFL
set_option linter.all false
namespace Go.Ka
set_option maxRecDepth 100000
def red6 (k : UInt8) : UInt8 := UInt8.ofNat (k.toNat % 6)
theorem n_red1 (k : UInt8) : remO (k.toNat : Int) 3 = remO ((red6 k).toNat : Int) 3 := by
  have := u8_all (p := fun k => remO (k.toNat : Int) 3 == remO ((red6 k).toNat : Int) 3) (by decide +kernel) k
  exact eq_of_beq this
theorem n_red2 (k : UInt8) : arU .rem k 6 = arU .rem (red6 k) 6 := by
  have := u8_all (p := fun k => arU .rem k 6 == arU .rem (red6 k) 6) (by decide +kernel) k
  exact eq_of_beq this
theorem n_red3 (k : UInt8) : arU .rem k 2 = arU .rem (red6 k) 2 := by
  have := u8_all (p := fun k => arU .rem k 2 == arU .rem (red6 k) 2) (by decide +kernel) k
  exact eq_of_beq this
theorem needs_red (n k : UInt8) : s_brooklaw4_SchemaNeeds n k = s_brooklaw4_SchemaNeeds n (red6 k) := by
  unfold s_brooklaw4_SchemaNeeds
  rw [n_red1 k, n_red2 k, n_red3 k]
end Go.Ka
