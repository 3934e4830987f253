/-
  DERIVED. GIVEN WITH THE SEED: THE CARDS: each row of YtfnjgminbjopeaaGreatDoorRows.lean that lists a variable, with what it lists TIED to the program's text (the seventh form; the later family's looks); each row that meets fmt, with fmt's text TOLD by the authors' own Lean function (tested against real Go, not proved from fmt's source: count such statements apart). THE CARD IS WHAT COUNTS. Prove the row's statement (the work); the ties are given (YtfnjgminbjopeaaGreatDoorTie.lean); close each card by the builder's one call (the guide's Derived/Test/ToyasCard.lean, 'card_holds'). Laid BY PROGRAM, IN A SANDBOX (cutbox-door.mjs). By AI agents, Wed Nov 11 2026. No macro, syntax, notation, axiom, sorry.
-/
import Derived.Test.YtfnjgminbjopeaaGreatDoorRows
import GoSem.ClaimSeven
namespace Go.Proofs.YtfnjgminbjopeaaGreatDoor
namespace Rows

/-- THE TIED CARD OF 'tidegaugelaw2.HeadActs'. -/
def headActsCard : Claim7 := { stood := { row := headActsRow, standIns := [], harness := (true, "dbed0eb399db97a79fb798649801f2884beeb76cd8883c9e93e2551c3f865518"), looks := true }, kinds := [], alts := [], laidByText := true, laidKinds := [.data, .handle, .sentinel, .sentinel, .sentinel, .sentinel, .sentinel, .sentinel, .sentinel, .sentinel, .sentinel, .sentinel, .sentinel, .pinned], laidTests := true, laidLooks := .later }
def HeadActsCardSaid : Prop := Claim7.holds Tryz.pinned (.plain (OpenSpec.ofChange headActsSpec)) headActsCard

/-- THE SECOND FORM's CARD OF 'tidegaugelaw2.HeadActs'. -/
def headActsUptoCard : Claim7 := { stood := { row := headActsUptoRow, standIns := [], harness := (true, "dbed0eb399db97a79fb798649801f2884beeb76cd8883c9e93e2551c3f865518"), looks := true }, kinds := [], alts := [], laidByText := true, laidKinds := [.data, .handle, .sentinel, .sentinel, .sentinel, .sentinel, .sentinel, .sentinel, .sentinel, .sentinel, .sentinel, .sentinel, .sentinel, .pinned], laidTests := true, laidLooks := .later }
def HeadActsUptoCardSaid : Prop := Claim7.holds Tryz.pinned (.plain (OpenSpec.upto headActsSpec)) headActsUptoCard
end Rows
end Go.Proofs.YtfnjgminbjopeaaGreatDoor
