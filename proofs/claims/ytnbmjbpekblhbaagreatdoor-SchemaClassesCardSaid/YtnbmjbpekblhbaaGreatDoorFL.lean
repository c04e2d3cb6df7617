/- SchemaFirst, reckoned: what depends on `which` is two remainders. -/
import Derived.Test.YtnbmjbpekblhbaaGreatDoorMC
set_option linter.all false
namespace Go.Ka
set_option maxRecDepth 100000
def red (k : UInt8) : UInt8 := UInt8.ofNat (k.toNat % 36)
theorem u8_all {p : UInt8 → Bool} (h : ((List.range 256).all fun i => p (UInt8.ofNat i)) = true) (k : UInt8) : p k = true := by
  have := List.all_eq_true.1 h k.toNat (List.mem_range.2 k.toNat_lt)
  simpa using this
theorem red1 (k : UInt8) : remO (k.toNat : Int) 6 = remO ((red k).toNat : Int) 6 := by
  have := u8_all (p := fun k => remO (k.toNat : Int) 6 == remO ((red k).toNat : Int) 6) (by decide +kernel) k
  exact eq_of_beq this
theorem red2 (k : UInt8) : ((quoO (k.toNat : Int) 6).bind fun v => remO v 6) = (quoO ((red k).toNat : Int) 6).bind fun v => remO v 6 := by
  have := u8_all (p := fun k => ((quoO (k.toNat : Int) 6).bind fun v => remO v 6) == ((quoO ((red k).toNat : Int) 6).bind fun v => remO v 6)) (by decide +kernel) k
  exact eq_of_beq this
theorem first_red (n k : UInt8) : s_brooklaw4_SchemaFirst n k = s_brooklaw4_SchemaFirst n (red k) := by
  have e : ∀ (a : UInt8) (f : Int → Option Bool), ((quoO (a.toNat : Int) 6).bind fun v5 => (remO v5 6).bind f) = ((quoO (a.toNat : Int) 6).bind fun v => remO v 6).bind f := fun a f => by
    cases quoO (a.toNat : Int) 6 <;> rfl
  unfold s_brooklaw4_SchemaFirst
  simp only [e, red1 k, red2 k]
end Go.Ka
