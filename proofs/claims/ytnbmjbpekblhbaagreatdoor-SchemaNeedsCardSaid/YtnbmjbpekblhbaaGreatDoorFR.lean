/- SchemaNeeds: whatever the two numbers, true. -/
import Derived.Test.YtnbmjbpekblhbaaGreatDoorFP
import Derived.Test.YtnbmjbpekblhbaaGreatDoorFQ0
import Derived.Test.YtnbmjbpekblhbaaGreatDoorFQ1
import Derived.Test.YtnbmjbpekblhbaaGreatDoorFQ2
import Derived.Test.YtnbmjbpekblhbaaGreatDoorFQ3
set_option linter.all false
namespace Go.Ka
theorem needs_at {a : Nat} (h : ((List.range 64).all fun n => (List.range 6).all fun k => s_brooklaw4_SchemaNeeds (UInt8.ofNat (a + n)) (UInt8.ofNat k) == some true) = true) {n k : Nat} (h1 : a ≤ n) (h2 : n < a + 64) (hk : k < 6) : s_brooklaw4_SchemaNeeds (UInt8.ofNat n) (UInt8.ofNat k) = some true := by
  have := List.all_eq_true.1 (List.all_eq_true.1 h (n - a) (List.mem_range.2 (by omega))) k (List.mem_range.2 hk)
  rw [show a + (n - a) = n by omega] at this
  exact eq_of_beq this
theorem needs_law (n k : UInt8) : s_brooklaw4_SchemaNeeds n k = some true := by
  rw [needs_red]
  have hn := n.toNat_lt
  have hk : k.toNat % 6 < 6 := Nat.mod_lt _ (by decide)
  have e : n = UInt8.ofNat n.toNat := by simp
  rw [e, red6]
  by_cases h0 : n.toNat < 64
  · exact needs_at needs0 (by omega) (by omega) hk
  · by_cases h1 : n.toNat < 128
    · exact needs_at needs1 (by omega) (by omega) hk
    · by_cases h2 : n.toNat < 192
      · exact needs_at needs2 (by omega) (by omega) hk
      · exact needs_at needs3 (by omega) (by omega) hk
end Go.Ka
