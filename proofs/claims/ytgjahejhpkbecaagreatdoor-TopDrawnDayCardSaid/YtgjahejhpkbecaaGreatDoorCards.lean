/-
  DERIVED. GIVEN WITH THE SEED: THE CARDS: each row of YtgjahejhpkbecaaGreatDoorRows.lean that lists a variable, with what it lists TIED to the program's text (the seventh form; the later family's looks); each row that meets fmt, with fmt's text TOLD by the authors' own Lean function (tested against real Go, not proved from fmt's source: count such statements apart). THE CARD IS WHAT COUNTS. Prove the row's statement (the work); the ties are given (YtgjahejhpkbecaaGreatDoorTie.lean); close each card by the builder's one call (the guide's Derived/Test/ToyasCard.lean, 'card_holds'). Laid BY PROGRAM, IN A SANDBOX (cutbox-door.mjs). By AI agents, Wed Nov 11 2026. No macro, syntax, notation, axiom, sorry.
-/
import Derived.Test.YtgjahejhpkbecaaGreatDoorRows
import GoSem.ClaimSeven
namespace Go.Proofs.YtgjahejhpkbecaaGreatDoor
namespace Rows

/-- THE TIED CARD OF 'astragaltop.TopDrawnDay'. -/
def topDrawnDayCard : Claim7 := { stood := { row := topDrawnDayRow, standIns := [], harness := (true, "dcd9380cb31343908c842f9d4637a8b4f1f249f0a6a2b33fe14ea1b2ef0e72a1"), looks := false }, kinds := [], alts := [], laidByText := true, laidKinds := [.data, .data, .data, .data, .pinned], laidTests := true, laidLooks := .later }
def TopDrawnDayCardSaid : Prop := Claim7.holds Tryz.pinned (.plain (OpenSpec.ofChange topDrawnDaySpec)) topDrawnDayCard

/-- THE SECOND FORM's CARD OF 'astragaltop.TopDrawnDay'. -/
def topDrawnDayUptoCard : Claim7 := { stood := { row := topDrawnDayUptoRow, standIns := [], harness := (true, "dcd9380cb31343908c842f9d4637a8b4f1f249f0a6a2b33fe14ea1b2ef0e72a1"), looks := false }, kinds := [], alts := [], laidByText := true, laidKinds := [.data, .data, .data, .data, .pinned], laidTests := true, laidLooks := .later }
def TopDrawnDayUptoCardSaid : Prop := Claim7.holds Tryz.pinned (.plain (OpenSpec.upto topDrawnDaySpec)) topDrawnDayUptoCard
end Rows
end Go.Proofs.YtgjahejhpkbecaaGreatDoor
