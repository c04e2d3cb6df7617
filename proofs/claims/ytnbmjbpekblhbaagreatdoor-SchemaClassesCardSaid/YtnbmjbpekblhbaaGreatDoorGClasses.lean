/- A class is, too, what stands above it: brooklaw4.SchemaClasses answers true. For all numbers of eight bits. -/
import Derived.Test.YtnbmjbpekblhbaaGreatDoorDSchemaClasses
import Derived.Test.YtnbmjbpekblhbaaGreatDoorFC
set_option linter.all false
namespace Go.Proofs.YtnbmjbpekblhbaaGreatDoor
theorem schemaClasses_proved : Rows.SchemaClassesCardSaid := SchemaClasses.card_holds Go.Ka.classes_law
end Go.Proofs.YtnbmjbpekblhbaaGreatDoor
