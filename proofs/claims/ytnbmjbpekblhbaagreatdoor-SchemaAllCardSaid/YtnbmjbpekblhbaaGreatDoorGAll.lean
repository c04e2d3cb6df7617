/- What any entry lacks first, and any class, is the document's: brooklaw4.SchemaAll answers true. For all entries and names. -/
import Derived.Test.YtnbmjbpekblhbaaGreatDoorDSchemaAll
import Derived.Test.YtnbmjbpekblhbaaGreatDoorQn
set_option linter.all false
namespace Go.Proofs.YtnbmjbpekblhbaaGreatDoor
theorem schemaAll_proved : Rows.SchemaAllCardSaid := SchemaAll.card_holds Go.Ka.all_law
end Go.Proofs.YtnbmjbpekblhbaaGreatDoor
