/- The plain functions. -/
import Derived.Test.YtnbmjbpekblhbaaGreatDoorKaSt
import Derived.Test.YtnbmjbpekblhbaaGreatDoorKaLp
set_option linter.all false
namespace Go.Ka
def s_internal_stringslite_Index (p0 : Str) (p1 : Str) : Option Int := (bif ((p1.length : Int) == 0) then some true else some (p1 == p0)).bind fun v2 => bif v2 then some 0 else bif ((p1.length : Int) == 1) then (lgetO p1 0).bind fun v5 => (s_indexByte p0 v5).bind fun v6 => some v6 else bif (decide ((p1.length : Int) ≥ (p0.length : Int))) then some (-1) else none
def s_internal_stringslite_Cut (p0 : Str) (p1 : Str) : Option (Str × Str × Bool) := (s_internal_stringslite_Index p0 p1).bind fun v1 => bif (decide (v1 ≥ 0)) then (lsubO p0 0 v1).bind fun v3 => (addO v1 (p1.length : Int)).bind fun v4 => (lsubO p0 v4 p0.length).bind fun v5 => some (v3, v5, true) else some (p0, [], false)
def s_strings_Cut (p0 : Str) (p1 : Str) : Option (Str × Str × Bool) := (s_internal_stringslite_Cut p0 p1).bind fun v1 => some (v1.1, v1.2.1, v1.2.2)
def s_strings_Builder_WriteByte (p0 : Str) (p1 : UInt8) : Option (Str × Bool) := (appO 1 p0 ([p1] : Str)).bind fun v1 => some (v1, false)
def s_strings_Builder_Write (p0 : Str) (p1 : Str) : Option (Str × Int × Bool) := (appO 1 p0 p1).bind fun v1 => some (v1, (p1.length : Int), false)
def s_strings_Builder_WriteString (p0 : Str) (p1 : Str) : Option (Str × Int × Bool) := (appO 1 p0 p1).bind fun v1 => some (v1, (p1.length : Int), false)
def s_strings_Builder_String (p0 : Str) : Option Str := (lenO p0).bind fun v1 => some p0
end Go.Ka
