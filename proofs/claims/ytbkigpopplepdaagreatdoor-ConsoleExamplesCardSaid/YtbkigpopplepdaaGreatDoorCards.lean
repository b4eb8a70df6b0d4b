/-
  DERIVED. GIVEN WITH THE SEED: THE CARDS: each row of YtbkigpopplepdaaGreatDoorRows.lean that lists a variable, with what it lists TIED to the program's text (the seventh form; the later family's looks); each row that meets fmt, with fmt's text TOLD by the authors' own Lean function (tested against real Go, not proved from fmt's source: count such statements apart). THE CARD IS WHAT COUNTS. Prove the row's statement (the work); the ties are given (YtbkigpopplepdaaGreatDoorTie.lean); close each card by the builder's one call (the guide's Derived/Test/ToyasCard.lean, 'card_holds'). Laid BY PROGRAM, IN A SANDBOX (cutbox-door.mjs). By AI agents, Wed Nov 11 2026. No macro, syntax, notation, axiom, sorry.
-/
import Derived.Test.YtbkigpopplepdaaGreatDoorRows
import GoSem.ClaimSeven
namespace Go.Proofs.YtbkigpopplepdaaGreatDoor
namespace Rows

/-- THE TIED CARD OF 'quartolaw41.ConsoleExamples'. -/
def consoleExamplesCard : Claim7 := { stood := { row := consoleExamplesRow, standIns := [], harness := (true, "8dcc550b68ca9e3ffbeb551cec863f9a9572c8f0d3528e539595ff32c68bfbc4"), looks := false }, kinds := [], alts := [], laidByText := true, laidKinds := [.data, .data, .data, .pinned, .data], laidTests := true, laidLooks := .later }
def ConsoleExamplesCardSaid : Prop := Claim7.holds Tryz.pinned (.plain (OpenSpec.ofChange consoleExamplesSpec)) consoleExamplesCard

/-- THE SECOND FORM's CARD OF 'quartolaw41.ConsoleExamples'. -/
def consoleExamplesUptoCard : Claim7 := { stood := { row := consoleExamplesUptoRow, standIns := [], harness := (true, "8dcc550b68ca9e3ffbeb551cec863f9a9572c8f0d3528e539595ff32c68bfbc4"), looks := false }, kinds := [], alts := [], laidByText := true, laidKinds := [.data, .data, .data, .pinned, .data], laidTests := true, laidLooks := .later }
def ConsoleExamplesUptoCardSaid : Prop := Claim7.holds Tryz.pinned (.plain (OpenSpec.upto consoleExamplesSpec)) consoleExamplesUptoCard
end Rows
end Go.Proofs.YtbkigpopplepdaaGreatDoor
