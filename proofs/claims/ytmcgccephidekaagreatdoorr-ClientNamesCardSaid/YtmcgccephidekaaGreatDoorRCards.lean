/-
  DERIVED. GIVEN WITH THE SEED: THE CARDS: each row of YtmcgccephidekaaGreatDoorRRows.lean that lists a variable, with what it lists TIED to the program's text (the seventh form; the later family's looks); each row that meets fmt, with fmt's text TOLD by the authors' own Lean function (tested against real Go, not proved from fmt's source: count such statements apart). THE CARD IS WHAT COUNTS. Prove the row's statement (the work); the ties are given (YtmcgccephidekaaGreatDoorRTie.lean); close each card by the builder's one call (the guide's Derived/Test/ToyasCard.lean, 'card_holds'). Laid BY PROGRAM, IN A SANDBOX (cutbox-door.mjs). By AI agents, Wed Nov 11 2026. No macro, syntax, notation, axiom, sorry.
-/
import Derived.Test.YtmcgccephidekaaGreatDoorRRows
import GoSem.ClaimSeven
namespace Go.Proofs.YtmcgccephidekaaGreatDoorR
namespace Rows

/-- THE TIED CARD OF 'cloakroomlaw31.ClientPieces'. -/
def clientPiecesCard : Claim7 := { stood := { row := clientPiecesRow, standIns := [], harness := (true, "1d4a343725a80517a6288de59b8be02bc607929f32f256a1bd44460cf7f44b32"), looks := true }, kinds := [], alts := [], laidByText := true, laidKinds := [.data, .data, .data, .data, .sentinel, .sentinel, .pinned], laidTests := true, laidLooks := .later }
def ClientPiecesCardSaid : Prop := Claim7.holds Tryz.pinned (.plain (OpenSpec.ofChange clientPiecesSpec)) clientPiecesCard

/-- THE TIED CARD OF 'cloakroomlaw31.ClientNames'. -/
def clientNamesCard : Claim7 := { stood := { row := clientNamesRow, standIns := [], harness := (true, "1d4a343725a80517a6288de59b8be02bc607929f32f256a1bd44460cf7f44b32"), looks := true }, kinds := [], alts := [], laidByText := true, laidKinds := [.data, .data, .data, .data, .sentinel, .sentinel, .pinned], laidTests := true, laidLooks := .later }
def ClientNamesCardSaid : Prop := Claim7.holds Tryz.pinned (.plain (OpenSpec.ofChange clientNamesSpec)) clientNamesCard

/-- THE TIED CARD OF 'cloakroomlaw31.ClientTurns'. -/
def clientTurnsCard : Claim7 := { stood := { row := clientTurnsRow, standIns := [], harness := (true, "1d4a343725a80517a6288de59b8be02bc607929f32f256a1bd44460cf7f44b32"), looks := true }, kinds := [], alts := [], laidByText := true, laidKinds := [.data, .data, .data, .data, .sentinel, .sentinel, .pinned], laidTests := true, laidLooks := .later }
def ClientTurnsCardSaid : Prop := Claim7.holds Tryz.pinned (.plain (OpenSpec.ofChange clientTurnsSpec)) clientTurnsCard

/-- THE TIED CARD OF 'cloakroomlaw31.ClientZero'. -/
def clientZeroCard : Claim7 := { stood := { row := clientZeroRow, standIns := [], harness := (true, "1d4a343725a80517a6288de59b8be02bc607929f32f256a1bd44460cf7f44b32"), looks := true }, kinds := [], alts := [], laidByText := true, laidKinds := [.data, .data, .data, .data, .sentinel, .sentinel, .pinned], laidTests := true, laidLooks := .later }
def ClientZeroCardSaid : Prop := Claim7.holds Tryz.pinned (.plain (OpenSpec.ofChange clientZeroSpec)) clientZeroCard

/-- THE SECOND FORM's CARD OF 'cloakroomlaw31.ClientPieces'. -/
def clientPiecesUptoCard : Claim7 := { stood := { row := clientPiecesUptoRow, standIns := [], harness := (true, "1d4a343725a80517a6288de59b8be02bc607929f32f256a1bd44460cf7f44b32"), looks := true }, kinds := [], alts := [], laidByText := true, laidKinds := [.data, .data, .data, .data, .sentinel, .sentinel, .pinned], laidTests := true, laidLooks := .later }
def ClientPiecesUptoCardSaid : Prop := Claim7.holds Tryz.pinned (.plain (OpenSpec.upto clientPiecesSpec)) clientPiecesUptoCard

/-- THE SECOND FORM's CARD OF 'cloakroomlaw31.ClientNames'. -/
def clientNamesUptoCard : Claim7 := { stood := { row := clientNamesUptoRow, standIns := [], harness := (true, "1d4a343725a80517a6288de59b8be02bc607929f32f256a1bd44460cf7f44b32"), looks := true }, kinds := [], alts := [], laidByText := true, laidKinds := [.data, .data, .data, .data, .sentinel, .sentinel, .pinned], laidTests := true, laidLooks := .later }
def ClientNamesUptoCardSaid : Prop := Claim7.holds Tryz.pinned (.plain (OpenSpec.upto clientNamesSpec)) clientNamesUptoCard

/-- THE SECOND FORM's CARD OF 'cloakroomlaw31.ClientTurns'. -/
def clientTurnsUptoCard : Claim7 := { stood := { row := clientTurnsUptoRow, standIns := [], harness := (true, "1d4a343725a80517a6288de59b8be02bc607929f32f256a1bd44460cf7f44b32"), looks := true }, kinds := [], alts := [], laidByText := true, laidKinds := [.data, .data, .data, .data, .sentinel, .sentinel, .pinned], laidTests := true, laidLooks := .later }
def ClientTurnsUptoCardSaid : Prop := Claim7.holds Tryz.pinned (.plain (OpenSpec.upto clientTurnsSpec)) clientTurnsUptoCard

/-- THE SECOND FORM's CARD OF 'cloakroomlaw31.ClientZero'. -/
def clientZeroUptoCard : Claim7 := { stood := { row := clientZeroUptoRow, standIns := [], harness := (true, "1d4a343725a80517a6288de59b8be02bc607929f32f256a1bd44460cf7f44b32"), looks := true }, kinds := [], alts := [], laidByText := true, laidKinds := [.data, .data, .data, .data, .sentinel, .sentinel, .pinned], laidTests := true, laidLooks := .later }
def ClientZeroUptoCardSaid : Prop := Claim7.holds Tryz.pinned (.plain (OpenSpec.upto clientZeroSpec)) clientZeroUptoCard
end Rows
end Go.Proofs.YtmcgccephidekaaGreatDoorR
