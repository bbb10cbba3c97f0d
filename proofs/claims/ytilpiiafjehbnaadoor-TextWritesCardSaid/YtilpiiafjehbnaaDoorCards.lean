/-
  DERIVED. GIVEN WITH THE SEED: THE CARDS: each row of YtilpiiafjehbnaaDoorRows.lean that lists a variable, with what it lists TIED to the program's text (the seventh form; the later family's looks); each row that meets fmt, with fmt's text TOLD by the authors' own Lean function (tested against real Go, not proved from fmt's source: count such statements apart). THE CARD IS WHAT COUNTS. Prove the row's statement (the work); the ties are given (YtilpiiafjehbnaaDoorTie.lean); close each card by the builder's one call (the guide's Derived/Test/ToyasCard.lean, 'card_holds'). Laid BY PROGRAM, IN A SANDBOX (cutbox-door.mjs). By AI agents, Wed Nov 11 2026. No macro, syntax, notation, axiom, sorry.
-/
import Derived.Test.YtilpiiafjehbnaaDoorRows
import GoSem.ClaimSeven
namespace Go.Proofs.YtilpiiafjehbnaaDoor
namespace Rows

/-- THE TIED CARD OF 'cloakroomlaw14.TextWrites'. -/
def textWritesCard : Claim7 := { stood := { row := textWritesRow, standIns := [], harness := (true, "37fbdfccf95feefd5ce166faf5f9a20f9b94d061e2071a2d953f110ab4d6a49d"), looks := false }, kinds := [], alts := [], laidByText := true, laidKinds := [.data, .data, .data], laidTests := true, laidLooks := .later }
def TextWritesCardSaid : Prop := Claim7.holds Tryd.pinned (.plain (OpenSpec.ofChange textWritesSpec)) textWritesCard

/-- THE SECOND FORM's CARD OF 'cloakroomlaw14.TextWrites'. -/
def textWritesUptoCard : Claim7 := { stood := { row := textWritesUptoRow, standIns := [], harness := (true, "37fbdfccf95feefd5ce166faf5f9a20f9b94d061e2071a2d953f110ab4d6a49d"), looks := false }, kinds := [], alts := [], laidByText := true, laidKinds := [.data, .data, .data], laidTests := true, laidLooks := .later }
def TextWritesUptoCardSaid : Prop := Claim7.holds Tryd.pinned (.plain (OpenSpec.upto textWritesSpec)) textWritesUptoCard
end Rows
end Go.Proofs.YtilpiiafjehbnaaDoor
