/- Without what its class must have an entry is refused, with what it may not have, too: brooklaw4.SchemaNeeds answers true. For all pairs of numbers of eight bits. -/
import Derived.Test.YtnbmjbpekblhbaaGreatDoorDSchemaNeeds
import Derived.Test.YtnbmjbpekblhbaaGreatDoorFR
set_option linter.all false
namespace Go.Proofs.YtnbmjbpekblhbaaGreatDoor
theorem schemaNeeds_proved : Rows.SchemaNeedsCardSaid := SchemaNeeds.card_holds Go.Ka.needs_law
end Go.Proofs.YtnbmjbpekblhbaaGreatDoor
