/-
  DERIVED. GIVEN WITH THE SEED: THE CARDS: each row of YtlpkmghhmpkddaaDoorRows.lean that lists a variable, with what it lists TIED to the program's text (the seventh form; the later family's looks); each row that meets fmt, with fmt's text TOLD by the authors' own Lean function (tested against real Go, not proved from fmt's source: count such statements apart). THE CARD IS WHAT COUNTS. Prove the row's statement (the work); the ties are given (YtlpkmghhmpkddaaDoorTie.lean); close each card by the builder's one call (the guide's Derived/Test/ToyasCard.lean, 'card_holds'). Laid BY PROGRAM, IN A SANDBOX (cutbox-door.mjs). By AI agents, Wed Nov 11 2026. No macro, syntax, notation, axiom, sorry.
-/
import Derived.Test.YtlpkmghhmpkddaaDoorRows
import GoSem.ClaimSeven
namespace Go.Proofs.YtlpkmghhmpkddaaDoor
namespace Rows

/-- THE TIED CARD OF 'tidegaugelaw1.LabelFits'. -/
def labelFitsCard : Claim7 := { stood := { row := labelFitsRow, standIns := [], harness := (true, "bae2d4cc1e2005dcc96115373d12968efd5dcf1c3d6bd7371f19e10c909b23f7"), looks := true }, kinds := [], alts := [], laidByText := true, laidKinds := [.handle, .sentinel, .sentinel, .sentinel, .sentinel, .sentinel, .sentinel, .sentinel, .sentinel, .sentinel, .sentinel, .sentinel], laidTests := true, laidLooks := .later }
def LabelFitsCardSaid : Prop := Claim7.holds Tryd.pinned (.plain (OpenSpec.ofChange labelFitsSpec)) labelFitsCard

/-- THE SECOND FORM's CARD OF 'tidegaugelaw1.LabelFits'. -/
def labelFitsUptoCard : Claim7 := { stood := { row := labelFitsUptoRow, standIns := [], harness := (true, "bae2d4cc1e2005dcc96115373d12968efd5dcf1c3d6bd7371f19e10c909b23f7"), looks := true }, kinds := [], alts := [], laidByText := true, laidKinds := [.handle, .sentinel, .sentinel, .sentinel, .sentinel, .sentinel, .sentinel, .sentinel, .sentinel, .sentinel, .sentinel, .sentinel], laidTests := true, laidLooks := .later }
def LabelFitsUptoCardSaid : Prop := Claim7.holds Tryd.pinned (.plain (OpenSpec.upto labelFitsSpec)) labelFitsUptoCard
end Rows
end Go.Proofs.YtlpkmghhmpkddaaDoor
