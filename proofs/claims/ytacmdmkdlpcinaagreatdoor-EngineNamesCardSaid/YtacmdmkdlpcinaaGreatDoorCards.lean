/-
  DERIVED. GIVEN WITH THE SEED: THE CARDS: each row of YtacmdmkdlpcinaaGreatDoorRows.lean that lists a variable, with what it lists TIED to the program's text (the seventh form; the later family's looks); each row that meets fmt, with fmt's text TOLD by the authors' own Lean function (tested against real Go, not proved from fmt's source: count such statements apart). THE CARD IS WHAT COUNTS. Prove the row's statement (the work); the ties are given (YtacmdmkdlpcinaaGreatDoorTie.lean); close each card by the builder's one call (the guide's Derived/Test/ToyasCard.lean, 'card_holds'). Laid BY PROGRAM, IN A SANDBOX (cutbox-door.mjs). By AI agents, Wed Nov 11 2026. No macro, syntax, notation, axiom, sorry.
-/
import Derived.Test.YtacmdmkdlpcinaaGreatDoorRows
import GoSem.ClaimSeven
namespace Go.Proofs.YtacmdmkdlpcinaaGreatDoor
namespace Rows

/-- THE TIED CARD OF 'cloakroomlaw11.EngineNames'. -/
def engineNamesCard : Claim7 := { stood := { row := engineNamesRow, standIns := [], harness := (true, "ba662d7298a8d5b53ee8c81b6071caadf7fe01038ba6ba94fdfc3f9f696693ef"), looks := true }, kinds := [], alts := [], laidByText := true, laidKinds := [.data, .data, .data, .sentinel, .sentinel], laidTests := true, laidLooks := .later }
def EngineNamesCardSaid : Prop := Claim7.holds Tryz.pinned (.plain (OpenSpec.ofChange engineNamesSpec)) engineNamesCard

/-- THE TIED CARD OF 'cloakroomlaw11.EngineApart'. -/
def engineApartCard : Claim7 := { stood := { row := engineApartRow, standIns := [], harness := (true, "ba662d7298a8d5b53ee8c81b6071caadf7fe01038ba6ba94fdfc3f9f696693ef"), looks := true }, kinds := [], alts := [], laidByText := true, laidKinds := [.data, .data, .data, .sentinel, .sentinel], laidTests := true, laidLooks := .later }
def EngineApartCardSaid : Prop := Claim7.holds Tryz.pinned (.plain (OpenSpec.ofChange engineApartSpec)) engineApartCard

/-- THE TIED CARD OF 'cloakroomlaw11.EngineTells'. -/
def engineTellsCard : Claim7 := { stood := { row := engineTellsRow, standIns := [], harness := (true, "ba662d7298a8d5b53ee8c81b6071caadf7fe01038ba6ba94fdfc3f9f696693ef"), looks := true }, kinds := [], alts := [], laidByText := true, laidKinds := [.data, .data, .data, .sentinel, .sentinel], laidTests := true, laidLooks := .later }
def EngineTellsCardSaid : Prop := Claim7.holds Tryz.pinned (.plain (OpenSpec.ofChange engineTellsSpec)) engineTellsCard

/-- THE TIED CARD OF 'cloakroomlaw11.EngineMap'. -/
def engineMapCard : Claim7 := { stood := { row := engineMapRow, standIns := [], harness := (true, "ba662d7298a8d5b53ee8c81b6071caadf7fe01038ba6ba94fdfc3f9f696693ef"), looks := true }, kinds := [], alts := [], laidByText := true, laidKinds := [.data, .data, .data, .sentinel, .sentinel], laidTests := true, laidLooks := .later }
def EngineMapCardSaid : Prop := Claim7.holds Tryz.pinned (.plain (OpenSpec.ofChange engineMapSpec)) engineMapCard

/-- THE TIED CARD OF 'cloakroomlaw11.EnginePages'. -/
def enginePagesCard : Claim7 := { stood := { row := enginePagesRow, standIns := [], harness := (true, "ba662d7298a8d5b53ee8c81b6071caadf7fe01038ba6ba94fdfc3f9f696693ef"), looks := true }, kinds := [], alts := [], laidByText := true, laidKinds := [.data, .data, .data, .sentinel, .sentinel], laidTests := true, laidLooks := .later }
def EnginePagesCardSaid : Prop := Claim7.holds Tryz.pinned (.plain (OpenSpec.ofChange enginePagesSpec)) enginePagesCard

/-- THE TIED CARD OF 'cloakroomlaw11.EngineAgain'. -/
def engineAgainCard : Claim7 := { stood := { row := engineAgainRow, standIns := [], harness := (true, "ba662d7298a8d5b53ee8c81b6071caadf7fe01038ba6ba94fdfc3f9f696693ef"), looks := true }, kinds := [], alts := [], laidByText := true, laidKinds := [.data, .data, .data, .sentinel, .sentinel], laidTests := true, laidLooks := .later }
def EngineAgainCardSaid : Prop := Claim7.holds Tryz.pinned (.plain (OpenSpec.ofChange engineAgainSpec)) engineAgainCard

/-- THE SECOND FORM's CARD OF 'cloakroomlaw11.EngineNames'. -/
def engineNamesUptoCard : Claim7 := { stood := { row := engineNamesUptoRow, standIns := [], harness := (true, "ba662d7298a8d5b53ee8c81b6071caadf7fe01038ba6ba94fdfc3f9f696693ef"), looks := true }, kinds := [], alts := [], laidByText := true, laidKinds := [.data, .data, .data, .sentinel, .sentinel], laidTests := true, laidLooks := .later }
def EngineNamesUptoCardSaid : Prop := Claim7.holds Tryz.pinned (.plain (OpenSpec.upto engineNamesSpec)) engineNamesUptoCard

/-- THE SECOND FORM's CARD OF 'cloakroomlaw11.EngineApart'. -/
def engineApartUptoCard : Claim7 := { stood := { row := engineApartUptoRow, standIns := [], harness := (true, "ba662d7298a8d5b53ee8c81b6071caadf7fe01038ba6ba94fdfc3f9f696693ef"), looks := true }, kinds := [], alts := [], laidByText := true, laidKinds := [.data, .data, .data, .sentinel, .sentinel], laidTests := true, laidLooks := .later }
def EngineApartUptoCardSaid : Prop := Claim7.holds Tryz.pinned (.plain (OpenSpec.upto engineApartSpec)) engineApartUptoCard

/-- THE SECOND FORM's CARD OF 'cloakroomlaw11.EngineTells'. -/
def engineTellsUptoCard : Claim7 := { stood := { row := engineTellsUptoRow, standIns := [], harness := (true, "ba662d7298a8d5b53ee8c81b6071caadf7fe01038ba6ba94fdfc3f9f696693ef"), looks := true }, kinds := [], alts := [], laidByText := true, laidKinds := [.data, .data, .data, .sentinel, .sentinel], laidTests := true, laidLooks := .later }
def EngineTellsUptoCardSaid : Prop := Claim7.holds Tryz.pinned (.plain (OpenSpec.upto engineTellsSpec)) engineTellsUptoCard

/-- THE SECOND FORM's CARD OF 'cloakroomlaw11.EngineMap'. -/
def engineMapUptoCard : Claim7 := { stood := { row := engineMapUptoRow, standIns := [], harness := (true, "ba662d7298a8d5b53ee8c81b6071caadf7fe01038ba6ba94fdfc3f9f696693ef"), looks := true }, kinds := [], alts := [], laidByText := true, laidKinds := [.data, .data, .data, .sentinel, .sentinel], laidTests := true, laidLooks := .later }
def EngineMapUptoCardSaid : Prop := Claim7.holds Tryz.pinned (.plain (OpenSpec.upto engineMapSpec)) engineMapUptoCard

/-- THE SECOND FORM's CARD OF 'cloakroomlaw11.EnginePages'. -/
def enginePagesUptoCard : Claim7 := { stood := { row := enginePagesUptoRow, standIns := [], harness := (true, "ba662d7298a8d5b53ee8c81b6071caadf7fe01038ba6ba94fdfc3f9f696693ef"), looks := true }, kinds := [], alts := [], laidByText := true, laidKinds := [.data, .data, .data, .sentinel, .sentinel], laidTests := true, laidLooks := .later }
def EnginePagesUptoCardSaid : Prop := Claim7.holds Tryz.pinned (.plain (OpenSpec.upto enginePagesSpec)) enginePagesUptoCard

/-- THE SECOND FORM's CARD OF 'cloakroomlaw11.EngineAgain'. -/
def engineAgainUptoCard : Claim7 := { stood := { row := engineAgainUptoRow, standIns := [], harness := (true, "ba662d7298a8d5b53ee8c81b6071caadf7fe01038ba6ba94fdfc3f9f696693ef"), looks := true }, kinds := [], alts := [], laidByText := true, laidKinds := [.data, .data, .data, .sentinel, .sentinel], laidTests := true, laidLooks := .later }
def EngineAgainUptoCardSaid : Prop := Claim7.holds Tryz.pinned (.plain (OpenSpec.upto engineAgainSpec)) engineAgainUptoCard
end Rows
end Go.Proofs.YtacmdmkdlpcinaaGreatDoor
