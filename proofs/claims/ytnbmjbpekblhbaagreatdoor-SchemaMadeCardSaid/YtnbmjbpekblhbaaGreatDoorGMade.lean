/- What an entry by numbers, and one with one thing changed, lacks first is the document's: brooklaw4.SchemaMade answers true. For all numbers. -/
import Derived.Test.YtnbmjbpekblhbaaGreatDoorDSchemaMade
import Derived.Test.YtnbmjbpekblhbaaGreatDoorQp
set_option linter.all false
namespace Go.Proofs.YtnbmjbpekblhbaaGreatDoor
theorem schemaMade_proved : Rows.SchemaMadeCardSaid := SchemaMade.card_holds Go.Ka.made_law
end Go.Proofs.YtnbmjbpekblhbaaGreatDoor
