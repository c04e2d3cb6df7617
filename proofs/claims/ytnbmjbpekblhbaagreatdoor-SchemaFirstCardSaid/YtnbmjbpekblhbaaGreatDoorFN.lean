/- SchemaFirst: whatever the two numbers, true. -/
import Derived.Test.YtnbmjbpekblhbaaGreatDoorFL
import Derived.Test.YtnbmjbpekblhbaaGreatDoorFM0
import Derived.Test.YtnbmjbpekblhbaaGreatDoorFM1
import Derived.Test.YtnbmjbpekblhbaaGreatDoorFM2
import Derived.Test.YtnbmjbpekblhbaaGreatDoorFM3
set_option linter.all false
namespace Go.Ka
theorem first_at {a : Nat} (h : ((List.range 64).all fun n => (List.range 36).all fun k => s_brooklaw4_SchemaFirst (UInt8.ofNat (a + n)) (UInt8.ofNat k) == some true) = true) {n k : Nat} (h1 : a ≤ n) (h2 : n < a + 64) (hk : k < 36) : s_brooklaw4_SchemaFirst (UInt8.ofNat n) (UInt8.ofNat k) = some true := by
  have := List.all_eq_true.1 (List.all_eq_true.1 h (n - a) (List.mem_range.2 (by omega))) k (List.mem_range.2 hk)
  rw [show a + (n - a) = n by omega] at this
  exact eq_of_beq this
theorem first_law (n k : UInt8) : s_brooklaw4_SchemaFirst n k = some true := by
  rw [first_red]
  have hn := n.toNat_lt
  have hk : k.toNat % 36 < 36 := Nat.mod_lt _ (by decide)
  have e : n = UInt8.ofNat n.toNat := by simp
  rw [e, red]
  by_cases h0 : n.toNat < 64
  · exact first_at first0 (by omega) (by omega) hk
  · by_cases h1 : n.toNat < 128
    · exact first_at first1 (by omega) (by omega) hk
    · by_cases h2 : n.toNat < 192
      · exact first_at first2 (by omega) (by omega) hk
      · exact first_at first3 (by omega) (by omega) hk
end Go.Ka
