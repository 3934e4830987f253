/-
  DERIVED. GIVEN WITH THE SEED: THE CARDS: each row of YtfkklcmepcocoaaGreatDoorRows.lean that lists a variable, with what it lists TIED to the program's text (the seventh form; the later family's looks); each row that meets fmt, with fmt's text TOLD by the authors' own Lean function (tested against real Go, not proved from fmt's source: count such statements apart). THE CARD IS WHAT COUNTS. Prove the row's statement (the work); the ties are given (YtfkklcmepcocoaaGreatDoorTie.lean); close each card by the builder's one call (the guide's Derived/Test/ToyasCard.lean, 'card_holds'). Laid BY PROGRAM, IN A SANDBOX (cutbox-door.mjs). By AI agents, Wed Nov 11 2026. No macro, syntax, notation, axiom, sorry.
-/
import Derived.Test.YtfkklcmepcocoaaGreatDoorRows
import GoSem.ClaimSeven
namespace Go.Proofs.YtfkklcmepcocoaaGreatDoor
namespace Rows

/-- THE TIED CARD OF 'tidegaugelaw2.BlockBack'. -/
def blockBackCard : Claim7 := { stood := { row := blockBackRow, standIns := [], harness := (true, "518ada5ef18810251d4d13235b69bfe1a37ec91b76497010afeb01caabc421a3"), looks := true }, kinds := [], alts := [], laidByText := true, laidKinds := [.data, .data, .handle, .sentinel, .sentinel, .sentinel, .sentinel, .sentinel, .sentinel, .sentinel, .sentinel, .pinned], laidTests := true, laidLooks := .later }
def BlockBackCardSaid : Prop := Claim7.holds Tryz.pinned (.plain (OpenSpec.ofChange blockBackSpec)) blockBackCard

/-- THE TIED CARD OF 'tidegaugelaw2.WalActs'. -/
def walActsCard : Claim7 := { stood := { row := walActsRow, standIns := [], harness := (true, "518ada5ef18810251d4d13235b69bfe1a37ec91b76497010afeb01caabc421a3"), looks := true }, kinds := [], alts := [], laidByText := true, laidKinds := [.data, .data, .data, .data, .handle, .sentinel, .sentinel, .sentinel, .sentinel, .sentinel, .sentinel, .sentinel, .sentinel, .sentinel, .sentinel, .sentinel, .sentinel, .sentinel, .pinned], laidTests := true, laidLooks := .later }
def WalActsCardSaid : Prop := Claim7.holds Tryz.pinned (.plain (OpenSpec.ofChange walActsSpec)) walActsCard

/-- THE TIED CARD OF 'tidegaugelaw2.BlockJoins'. -/
def blockJoinsCard : Claim7 := { stood := { row := blockJoinsRow, standIns := [], harness := (true, "518ada5ef18810251d4d13235b69bfe1a37ec91b76497010afeb01caabc421a3"), looks := true }, kinds := [], alts := [], laidByText := true, laidKinds := [.data, .data, .handle, .sentinel, .sentinel, .sentinel, .sentinel, .sentinel, .sentinel, .sentinel, .sentinel, .sentinel, .sentinel, .sentinel, .pinned], laidTests := true, laidLooks := .later }
def BlockJoinsCardSaid : Prop := Claim7.holds Tryz.pinned (.plain (OpenSpec.ofChange blockJoinsSpec)) blockJoinsCard

/-- THE TIED CARD OF 'tidegaugelaw2.BlockReads'. -/
def blockReadsCard : Claim7 := { stood := { row := blockReadsRow, standIns := [], harness := (true, "518ada5ef18810251d4d13235b69bfe1a37ec91b76497010afeb01caabc421a3"), looks := true }, kinds := [], alts := [], laidByText := true, laidKinds := [.data, .data, .data, .data, .handle, .sentinel, .sentinel, .sentinel, .sentinel, .sentinel, .sentinel, .sentinel, .sentinel, .sentinel, .sentinel, .sentinel, .sentinel, .sentinel, .pinned], laidTests := true, laidLooks := .later }
def BlockReadsCardSaid : Prop := Claim7.holds Tryz.pinned (.plain (OpenSpec.ofChange blockReadsSpec)) blockReadsCard

/-- THE TIED CARD OF 'tidegaugelaw2.BlockMakes'. -/
def blockMakesCard : Claim7 := { stood := { row := blockMakesRow, standIns := [], harness := (true, "518ada5ef18810251d4d13235b69bfe1a37ec91b76497010afeb01caabc421a3"), looks := true }, kinds := [], alts := [], laidByText := true, laidKinds := [.data, .data, .data, .data, .handle, .sentinel, .sentinel, .sentinel, .sentinel, .sentinel, .sentinel, .sentinel, .sentinel, .sentinel, .sentinel, .sentinel, .sentinel, .sentinel, .pinned], laidTests := true, laidLooks := .later }
def BlockMakesCardSaid : Prop := Claim7.holds Tryz.pinned (.plain (OpenSpec.ofChange blockMakesSpec)) blockMakesCard

/-- THE TIED CARD OF 'tidegaugelaw2.BlockChecks'. -/
def blockChecksCard : Claim7 := { stood := { row := blockChecksRow, standIns := [], harness := (true, "518ada5ef18810251d4d13235b69bfe1a37ec91b76497010afeb01caabc421a3"), looks := true }, kinds := [], alts := [], laidByText := true, laidKinds := [.data, .data, .data, .data, .handle, .sentinel, .sentinel, .sentinel, .sentinel, .sentinel, .sentinel, .sentinel, .sentinel, .sentinel, .sentinel, .sentinel, .pinned], laidTests := true, laidLooks := .later }
def BlockChecksCardSaid : Prop := Claim7.holds Tryz.pinned (.plain (OpenSpec.ofChange blockChecksSpec)) blockChecksCard

/-- THE SECOND FORM's CARD OF 'tidegaugelaw2.BlockBack'. -/
def blockBackUptoCard : Claim7 := { stood := { row := blockBackUptoRow, standIns := [], harness := (true, "518ada5ef18810251d4d13235b69bfe1a37ec91b76497010afeb01caabc421a3"), looks := true }, kinds := [], alts := [], laidByText := true, laidKinds := [.data, .data, .handle, .sentinel, .sentinel, .sentinel, .sentinel, .sentinel, .sentinel, .sentinel, .sentinel, .pinned], laidTests := true, laidLooks := .later }
def BlockBackUptoCardSaid : Prop := Claim7.holds Tryz.pinned (.plain (OpenSpec.upto blockBackSpec)) blockBackUptoCard

/-- THE SECOND FORM's CARD OF 'tidegaugelaw2.WalActs'. -/
def walActsUptoCard : Claim7 := { stood := { row := walActsUptoRow, standIns := [], harness := (true, "518ada5ef18810251d4d13235b69bfe1a37ec91b76497010afeb01caabc421a3"), looks := true }, kinds := [], alts := [], laidByText := true, laidKinds := [.data, .data, .data, .data, .handle, .sentinel, .sentinel, .sentinel, .sentinel, .sentinel, .sentinel, .sentinel, .sentinel, .sentinel, .sentinel, .sentinel, .sentinel, .sentinel, .pinned], laidTests := true, laidLooks := .later }
def WalActsUptoCardSaid : Prop := Claim7.holds Tryz.pinned (.plain (OpenSpec.upto walActsSpec)) walActsUptoCard

/-- THE SECOND FORM's CARD OF 'tidegaugelaw2.BlockJoins'. -/
def blockJoinsUptoCard : Claim7 := { stood := { row := blockJoinsUptoRow, standIns := [], harness := (true, "518ada5ef18810251d4d13235b69bfe1a37ec91b76497010afeb01caabc421a3"), looks := true }, kinds := [], alts := [], laidByText := true, laidKinds := [.data, .data, .handle, .sentinel, .sentinel, .sentinel, .sentinel, .sentinel, .sentinel, .sentinel, .sentinel, .sentinel, .sentinel, .sentinel, .pinned], laidTests := true, laidLooks := .later }
def BlockJoinsUptoCardSaid : Prop := Claim7.holds Tryz.pinned (.plain (OpenSpec.upto blockJoinsSpec)) blockJoinsUptoCard

/-- THE SECOND FORM's CARD OF 'tidegaugelaw2.BlockReads'. -/
def blockReadsUptoCard : Claim7 := { stood := { row := blockReadsUptoRow, standIns := [], harness := (true, "518ada5ef18810251d4d13235b69bfe1a37ec91b76497010afeb01caabc421a3"), looks := true }, kinds := [], alts := [], laidByText := true, laidKinds := [.data, .data, .data, .data, .handle, .sentinel, .sentinel, .sentinel, .sentinel, .sentinel, .sentinel, .sentinel, .sentinel, .sentinel, .sentinel, .sentinel, .sentinel, .sentinel, .pinned], laidTests := true, laidLooks := .later }
def BlockReadsUptoCardSaid : Prop := Claim7.holds Tryz.pinned (.plain (OpenSpec.upto blockReadsSpec)) blockReadsUptoCard

/-- THE SECOND FORM's CARD OF 'tidegaugelaw2.BlockMakes'. -/
def blockMakesUptoCard : Claim7 := { stood := { row := blockMakesUptoRow, standIns := [], harness := (true, "518ada5ef18810251d4d13235b69bfe1a37ec91b76497010afeb01caabc421a3"), looks := true }, kinds := [], alts := [], laidByText := true, laidKinds := [.data, .data, .data, .data, .handle, .sentinel, .sentinel, .sentinel, .sentinel, .sentinel, .sentinel, .sentinel, .sentinel, .sentinel, .sentinel, .sentinel, .sentinel, .sentinel, .pinned], laidTests := true, laidLooks := .later }
def BlockMakesUptoCardSaid : Prop := Claim7.holds Tryz.pinned (.plain (OpenSpec.upto blockMakesSpec)) blockMakesUptoCard

/-- THE SECOND FORM's CARD OF 'tidegaugelaw2.BlockChecks'. -/
def blockChecksUptoCard : Claim7 := { stood := { row := blockChecksUptoRow, standIns := [], harness := (true, "518ada5ef18810251d4d13235b69bfe1a37ec91b76497010afeb01caabc421a3"), looks := true }, kinds := [], alts := [], laidByText := true, laidKinds := [.data, .data, .data, .data, .handle, .sentinel, .sentinel, .sentinel, .sentinel, .sentinel, .sentinel, .sentinel, .sentinel, .sentinel, .sentinel, .sentinel, .pinned], laidTests := true, laidLooks := .later }
def BlockChecksUptoCardSaid : Prop := Claim7.holds Tryz.pinned (.plain (OpenSpec.upto blockChecksSpec)) blockChecksUptoCard
end Rows
end Go.Proofs.YtfkklcmepcocoaaGreatDoor
