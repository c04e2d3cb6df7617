/-
  DERIVED. GIVEN WITH THE SEED: THE CARDS: each row of YtnbmjbpekblhbaaGreatDoorRows.lean that lists a variable, with what it lists TIED to the program's text (the seventh form; the later family's looks); each row that meets fmt, with fmt's text TOLD by the authors' own Lean function (tested against real Go, not proved from fmt's source: count such statements apart). THE CARD IS WHAT COUNTS. Prove the row's statement (the work); the ties are given (YtnbmjbpekblhbaaGreatDoorTie.lean); close each card by the builder's one call (the guide's Derived/Test/ToyasCard.lean, 'card_holds'). Laid BY PROGRAM, IN A SANDBOX (cutbox-door.mjs). By AI agents, Wed Nov 11 2026. No macro, syntax, notation, axiom, sorry.
-/
import Derived.Test.YtnbmjbpekblhbaaGreatDoorRows
import GoSem.ClaimSeven
namespace Go.Proofs.YtnbmjbpekblhbaaGreatDoor
namespace Rows

/-- THE TIED CARD OF 'brooklaw4.SchemaAll'. -/
def schemaAllCard : Claim7 := { stood := { row := schemaAllRow, standIns := [], harness := (true, "7cde8aff9002fdaf016bb368cd9c45af2a052c3621ecfaf29d2dce0265328a60"), looks := true }, kinds := [], alts := [], laidByText := true, laidKinds := [.data, .data, .data, .data, .sentinel, .sentinel, .listed, .data, .pinned], laidTests := true, laidLooks := .later }
def SchemaAllCardSaid : Prop := Claim7.holds Tryz.pinned (.plain (OpenSpec.ofChange schemaAllSpec)) schemaAllCard

/-- THE TIED CARD OF 'brooklaw4.SchemaMade'. -/
def schemaMadeCard : Claim7 := { stood := { row := schemaMadeRow, standIns := [], harness := (true, "7cde8aff9002fdaf016bb368cd9c45af2a052c3621ecfaf29d2dce0265328a60"), looks := true }, kinds := [], alts := [], laidByText := true, laidKinds := [.data, .data, .data, .data, .sentinel, .sentinel, .listed, .data, .pinned], laidTests := true, laidLooks := .later }
def SchemaMadeCardSaid : Prop := Claim7.holds Tryz.pinned (.plain (OpenSpec.ofChange schemaMadeSpec)) schemaMadeCard

/-- THE TIED CARD OF 'brooklaw4.SchemaNeeds'. -/
def schemaNeedsCard : Claim7 := { stood := { row := schemaNeedsRow, standIns := [], harness := (true, "7cde8aff9002fdaf016bb368cd9c45af2a052c3621ecfaf29d2dce0265328a60"), looks := true }, kinds := [], alts := [], laidByText := true, laidKinds := [.data, .data, .data, .data, .sentinel, .sentinel, .listed, .data, .pinned], laidTests := true, laidLooks := .later }
def SchemaNeedsCardSaid : Prop := Claim7.holds Tryz.pinned (.plain (OpenSpec.ofChange schemaNeedsSpec)) schemaNeedsCard

/-- THE TIED CARD OF 'brooklaw4.SchemaNames'. -/
def schemaNamesCard : Claim7 := { stood := { row := schemaNamesRow, standIns := [], harness := (true, "7cde8aff9002fdaf016bb368cd9c45af2a052c3621ecfaf29d2dce0265328a60"), looks := true }, kinds := [], alts := [], laidByText := true, laidKinds := [.data, .data, .data, .data, .sentinel, .sentinel, .listed, .data, .pinned], laidTests := true, laidLooks := .later }
def SchemaNamesCardSaid : Prop := Claim7.holds Tryz.pinned (.plain (OpenSpec.ofChange schemaNamesSpec)) schemaNamesCard

/-- THE TIED CARD OF 'brooklaw4.SchemaClasses'. -/
def schemaClassesCard : Claim7 := { stood := { row := schemaClassesRow, standIns := [], harness := (true, "7cde8aff9002fdaf016bb368cd9c45af2a052c3621ecfaf29d2dce0265328a60"), looks := true }, kinds := [], alts := [], laidByText := true, laidKinds := [.data, .data, .data, .data, .sentinel, .sentinel, .listed, .data, .pinned], laidTests := true, laidLooks := .later }
def SchemaClassesCardSaid : Prop := Claim7.holds Tryz.pinned (.plain (OpenSpec.ofChange schemaClassesSpec)) schemaClassesCard

/-- THE TIED CARD OF 'brooklaw4.SchemaFirst'. -/
def schemaFirstCard : Claim7 := { stood := { row := schemaFirstRow, standIns := [], harness := (true, "7cde8aff9002fdaf016bb368cd9c45af2a052c3621ecfaf29d2dce0265328a60"), looks := true }, kinds := [], alts := [], laidByText := true, laidKinds := [.data, .data, .data, .data, .sentinel, .sentinel, .listed, .data, .pinned], laidTests := true, laidLooks := .later }
def SchemaFirstCardSaid : Prop := Claim7.holds Tryz.pinned (.plain (OpenSpec.ofChange schemaFirstSpec)) schemaFirstCard

/-- THE SECOND FORM's CARD OF 'brooklaw4.SchemaAll'. -/
def schemaAllUptoCard : Claim7 := { stood := { row := schemaAllUptoRow, standIns := [], harness := (true, "7cde8aff9002fdaf016bb368cd9c45af2a052c3621ecfaf29d2dce0265328a60"), looks := true }, kinds := [], alts := [], laidByText := true, laidKinds := [.data, .data, .data, .data, .sentinel, .sentinel, .listed, .data, .pinned], laidTests := true, laidLooks := .later }
def SchemaAllUptoCardSaid : Prop := Claim7.holds Tryz.pinned (.plain (OpenSpec.upto schemaAllSpec)) schemaAllUptoCard

/-- THE SECOND FORM's CARD OF 'brooklaw4.SchemaMade'. -/
def schemaMadeUptoCard : Claim7 := { stood := { row := schemaMadeUptoRow, standIns := [], harness := (true, "7cde8aff9002fdaf016bb368cd9c45af2a052c3621ecfaf29d2dce0265328a60"), looks := true }, kinds := [], alts := [], laidByText := true, laidKinds := [.data, .data, .data, .data, .sentinel, .sentinel, .listed, .data, .pinned], laidTests := true, laidLooks := .later }
def SchemaMadeUptoCardSaid : Prop := Claim7.holds Tryz.pinned (.plain (OpenSpec.upto schemaMadeSpec)) schemaMadeUptoCard

/-- THE SECOND FORM's CARD OF 'brooklaw4.SchemaNeeds'. -/
def schemaNeedsUptoCard : Claim7 := { stood := { row := schemaNeedsUptoRow, standIns := [], harness := (true, "7cde8aff9002fdaf016bb368cd9c45af2a052c3621ecfaf29d2dce0265328a60"), looks := true }, kinds := [], alts := [], laidByText := true, laidKinds := [.data, .data, .data, .data, .sentinel, .sentinel, .listed, .data, .pinned], laidTests := true, laidLooks := .later }
def SchemaNeedsUptoCardSaid : Prop := Claim7.holds Tryz.pinned (.plain (OpenSpec.upto schemaNeedsSpec)) schemaNeedsUptoCard

/-- THE SECOND FORM's CARD OF 'brooklaw4.SchemaNames'. -/
def schemaNamesUptoCard : Claim7 := { stood := { row := schemaNamesUptoRow, standIns := [], harness := (true, "7cde8aff9002fdaf016bb368cd9c45af2a052c3621ecfaf29d2dce0265328a60"), looks := true }, kinds := [], alts := [], laidByText := true, laidKinds := [.data, .data, .data, .data, .sentinel, .sentinel, .listed, .data, .pinned], laidTests := true, laidLooks := .later }
def SchemaNamesUptoCardSaid : Prop := Claim7.holds Tryz.pinned (.plain (OpenSpec.upto schemaNamesSpec)) schemaNamesUptoCard

/-- THE SECOND FORM's CARD OF 'brooklaw4.SchemaClasses'. -/
def schemaClassesUptoCard : Claim7 := { stood := { row := schemaClassesUptoRow, standIns := [], harness := (true, "7cde8aff9002fdaf016bb368cd9c45af2a052c3621ecfaf29d2dce0265328a60"), looks := true }, kinds := [], alts := [], laidByText := true, laidKinds := [.data, .data, .data, .data, .sentinel, .sentinel, .listed, .data, .pinned], laidTests := true, laidLooks := .later }
def SchemaClassesUptoCardSaid : Prop := Claim7.holds Tryz.pinned (.plain (OpenSpec.upto schemaClassesSpec)) schemaClassesUptoCard

/-- THE SECOND FORM's CARD OF 'brooklaw4.SchemaFirst'. -/
def schemaFirstUptoCard : Claim7 := { stood := { row := schemaFirstUptoRow, standIns := [], harness := (true, "7cde8aff9002fdaf016bb368cd9c45af2a052c3621ecfaf29d2dce0265328a60"), looks := true }, kinds := [], alts := [], laidByText := true, laidKinds := [.data, .data, .data, .data, .sentinel, .sentinel, .listed, .data, .pinned], laidTests := true, laidLooks := .later }
def SchemaFirstUptoCardSaid : Prop := Claim7.holds Tryz.pinned (.plain (OpenSpec.upto schemaFirstSpec)) schemaFirstUptoCard
end Rows
end Go.Proofs.YtnbmjbpekblhbaaGreatDoor
