/- The first part of a name is one of the entry's values, in whatever letters; else it is refused: brooklaw4.SchemaNames answers true. For all texts. -/
import Derived.Test.YtnbmjbpekblhbaaGreatDoorDSchemaNames
import Derived.Test.YtnbmjbpekblhbaaGreatDoorQo
set_option linter.all false
namespace Go.Proofs.YtnbmjbpekblhbaaGreatDoor
theorem schemaNames_proved : Rows.SchemaNamesCardSaid := SchemaNames.card_holds Go.Ka.names_law
end Go.Proofs.YtnbmjbpekblhbaaGreatDoor
