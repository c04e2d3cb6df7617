/- Of several things that are wrong with an entry the first one counts: brooklaw4.SchemaFirst answers true. For all pairs of numbers of eight bits. -/
import Derived.Test.YtnbmjbpekblhbaaGreatDoorFX
import Derived.Test.YtnbmjbpekblhbaaGreatDoorFN
set_option linter.all false
namespace Go.Proofs.YtnbmjbpekblhbaaGreatDoor
theorem schemaFirst_proved : Rows.SchemaFirstCardSaid := card_holds Go.Ka.first_law
end Go.Proofs.YtnbmjbpekblhbaaGreatDoor
