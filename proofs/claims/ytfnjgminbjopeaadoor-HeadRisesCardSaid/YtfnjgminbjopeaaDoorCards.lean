/-
  DERIVED. GIVEN WITH THE SEED: THE CARDS: each row of YtfnjgminbjopeaaDoorRows.lean that lists a variable, with what it lists TIED to the program's text (the seventh form; the later family's looks); each row that meets fmt, with fmt's text TOLD by the authors' own Lean function (tested against real Go, not proved from fmt's source: count such statements apart). THE CARD IS WHAT COUNTS. Prove the row's statement (the work); the ties are given (YtfnjgminbjopeaaDoorTie.lean); close each card by the builder's one call (the guide's Derived/Test/ToyasCard.lean, 'card_holds'). Laid BY PROGRAM, IN A SANDBOX (cutbox-door.mjs). By AI agents, Wed Nov 11 2026. No macro, syntax, notation, axiom, sorry.
-/
import Derived.Test.YtfnjgminbjopeaaDoorRows
import GoSem.ClaimSeven
namespace Go.Proofs.YtfnjgminbjopeaaDoor
namespace Rows

/-- THE TIED CARD OF 'tidegaugelaw1.ChunkMerges'. -/
def chunkMergesCard : Claim7 := { stood := { row := chunkMergesRow, standIns := [], harness := (true, "e9ae22c9bfc8c6e874648cd92d4f921baa85c23daddbc3ceb34c563a0b728ade"), looks := true }, kinds := [], alts := [], laidByText := true, laidKinds := [.data, .sentinel, .sentinel, .sentinel, .sentinel, .sentinel, .sentinel, .sentinel], laidTests := true, laidLooks := .later }
def ChunkMergesCardSaid : Prop := Claim7.holds Tryd.pinned (.plain (OpenSpec.ofChange chunkMergesSpec)) chunkMergesCard

/-- THE TIED CARD OF 'tidegaugelaw1.LabelTexts'. -/
def labelTextsCard : Claim7 := { stood := { row := labelTextsRow, standIns := [], harness := (true, "e9ae22c9bfc8c6e874648cd92d4f921baa85c23daddbc3ceb34c563a0b728ade"), looks := true }, kinds := [], alts := [], laidByText := true, laidKinds := [.data, .handle, .sentinel, .sentinel, .sentinel, .sentinel, .sentinel, .sentinel, .sentinel, .sentinel, .sentinel, .sentinel, .sentinel, .pinned], laidTests := true, laidLooks := .later }
def LabelTextsCardSaid : Prop := Claim7.holds Tryd.pinned (.plain (OpenSpec.ofChange labelTextsSpec)) labelTextsCard

/-- THE TIED CARD OF 'tidegaugelaw1.LabelFits'. -/
def labelFitsCard : Claim7 := { stood := { row := labelFitsRow, standIns := [], harness := (true, "e9ae22c9bfc8c6e874648cd92d4f921baa85c23daddbc3ceb34c563a0b728ade"), looks := true }, kinds := [], alts := [], laidByText := true, laidKinds := [.handle, .sentinel, .sentinel, .sentinel, .sentinel, .sentinel, .sentinel, .sentinel, .sentinel, .sentinel, .sentinel, .sentinel], laidTests := true, laidLooks := .later }
def LabelFitsCardSaid : Prop := Claim7.holds Tryd.pinned (.plain (OpenSpec.ofChange labelFitsSpec)) labelFitsCard

/-- THE TIED CARD OF 'tidegaugelaw1.ChunkCodes'. -/
def chunkCodesCard : Claim7 := { stood := { row := chunkCodesRow, standIns := [], harness := (true, "e9ae22c9bfc8c6e874648cd92d4f921baa85c23daddbc3ceb34c563a0b728ade"), looks := true }, kinds := [], alts := [], laidByText := true, laidKinds := [.data, .handle, .sentinel, .sentinel, .sentinel, .sentinel, .sentinel, .sentinel, .sentinel, .sentinel, .sentinel, .sentinel, .sentinel], laidTests := true, laidLooks := .later }
def ChunkCodesCardSaid : Prop := Claim7.holds Tryd.pinned (.plain (OpenSpec.ofChange chunkCodesSpec)) chunkCodesCard

/-- THE TIED CARD OF 'tidegaugelaw1.ChunkReads'. -/
def chunkReadsCard : Claim7 := { stood := { row := chunkReadsRow, standIns := [], harness := (true, "e9ae22c9bfc8c6e874648cd92d4f921baa85c23daddbc3ceb34c563a0b728ade"), looks := true }, kinds := [], alts := [], laidByText := true, laidKinds := [.data, .handle, .sentinel, .sentinel, .sentinel, .sentinel, .sentinel, .sentinel, .sentinel, .sentinel, .sentinel, .sentinel, .sentinel], laidTests := true, laidLooks := .later }
def ChunkReadsCardSaid : Prop := Claim7.holds Tryd.pinned (.plain (OpenSpec.ofChange chunkReadsSpec)) chunkReadsCard

/-- THE TIED CARD OF 'tidegaugelaw1.ChunkPlain'. -/
def chunkPlainCard : Claim7 := { stood := { row := chunkPlainRow, standIns := [], harness := (true, "e9ae22c9bfc8c6e874648cd92d4f921baa85c23daddbc3ceb34c563a0b728ade"), looks := true }, kinds := [], alts := [], laidByText := true, laidKinds := [.data, .handle, .sentinel, .sentinel, .sentinel, .sentinel, .sentinel, .sentinel, .sentinel, .sentinel, .sentinel, .sentinel, .sentinel], laidTests := true, laidLooks := .later }
def ChunkPlainCardSaid : Prop := Claim7.holds Tryd.pinned (.plain (OpenSpec.ofChange chunkPlainSpec)) chunkPlainCard

/-- THE TIED CARD OF 'tidegaugelaw2.HeadRises'. -/
def headRisesCard : Claim7 := { stood := { row := headRisesRow, standIns := [], harness := (true, "e9ae22c9bfc8c6e874648cd92d4f921baa85c23daddbc3ceb34c563a0b728ade"), looks := true }, kinds := [], alts := [], laidByText := true, laidKinds := [.data, .sentinel, .sentinel, .sentinel, .sentinel, .sentinel, .sentinel, .sentinel, .pinned], laidTests := true, laidLooks := .later }
def HeadRisesCardSaid : Prop := Claim7.holds Tryd.pinned (.plain (OpenSpec.ofChange headRisesSpec)) headRisesCard

/-- THE TIED CARD OF 'tidegaugelaw2.HeadMany'. -/
def headManyCard : Claim7 := { stood := { row := headManyRow, standIns := [], harness := (true, "e9ae22c9bfc8c6e874648cd92d4f921baa85c23daddbc3ceb34c563a0b728ade"), looks := true }, kinds := [], alts := [], laidByText := true, laidKinds := [.data, .handle, .sentinel, .sentinel, .sentinel, .sentinel, .sentinel, .sentinel, .sentinel, .sentinel, .sentinel, .sentinel, .sentinel, .pinned], laidTests := true, laidLooks := .later }
def HeadManyCardSaid : Prop := Claim7.holds Tryd.pinned (.plain (OpenSpec.ofChange headManySpec)) headManyCard

/-- THE SECOND FORM's CARD OF 'tidegaugelaw1.ChunkMerges'. -/
def chunkMergesUptoCard : Claim7 := { stood := { row := chunkMergesUptoRow, standIns := [], harness := (true, "e9ae22c9bfc8c6e874648cd92d4f921baa85c23daddbc3ceb34c563a0b728ade"), looks := true }, kinds := [], alts := [], laidByText := true, laidKinds := [.data, .sentinel, .sentinel, .sentinel, .sentinel, .sentinel, .sentinel, .sentinel], laidTests := true, laidLooks := .later }
def ChunkMergesUptoCardSaid : Prop := Claim7.holds Tryd.pinned (.plain (OpenSpec.upto chunkMergesSpec)) chunkMergesUptoCard

/-- THE SECOND FORM's CARD OF 'tidegaugelaw1.LabelTexts'. -/
def labelTextsUptoCard : Claim7 := { stood := { row := labelTextsUptoRow, standIns := [], harness := (true, "e9ae22c9bfc8c6e874648cd92d4f921baa85c23daddbc3ceb34c563a0b728ade"), looks := true }, kinds := [], alts := [], laidByText := true, laidKinds := [.data, .handle, .sentinel, .sentinel, .sentinel, .sentinel, .sentinel, .sentinel, .sentinel, .sentinel, .sentinel, .sentinel, .sentinel, .pinned], laidTests := true, laidLooks := .later }
def LabelTextsUptoCardSaid : Prop := Claim7.holds Tryd.pinned (.plain (OpenSpec.upto labelTextsSpec)) labelTextsUptoCard

/-- THE SECOND FORM's CARD OF 'tidegaugelaw1.LabelFits'. -/
def labelFitsUptoCard : Claim7 := { stood := { row := labelFitsUptoRow, standIns := [], harness := (true, "e9ae22c9bfc8c6e874648cd92d4f921baa85c23daddbc3ceb34c563a0b728ade"), looks := true }, kinds := [], alts := [], laidByText := true, laidKinds := [.handle, .sentinel, .sentinel, .sentinel, .sentinel, .sentinel, .sentinel, .sentinel, .sentinel, .sentinel, .sentinel, .sentinel], laidTests := true, laidLooks := .later }
def LabelFitsUptoCardSaid : Prop := Claim7.holds Tryd.pinned (.plain (OpenSpec.upto labelFitsSpec)) labelFitsUptoCard

/-- THE SECOND FORM's CARD OF 'tidegaugelaw1.ChunkCodes'. -/
def chunkCodesUptoCard : Claim7 := { stood := { row := chunkCodesUptoRow, standIns := [], harness := (true, "e9ae22c9bfc8c6e874648cd92d4f921baa85c23daddbc3ceb34c563a0b728ade"), looks := true }, kinds := [], alts := [], laidByText := true, laidKinds := [.data, .handle, .sentinel, .sentinel, .sentinel, .sentinel, .sentinel, .sentinel, .sentinel, .sentinel, .sentinel, .sentinel, .sentinel], laidTests := true, laidLooks := .later }
def ChunkCodesUptoCardSaid : Prop := Claim7.holds Tryd.pinned (.plain (OpenSpec.upto chunkCodesSpec)) chunkCodesUptoCard

/-- THE SECOND FORM's CARD OF 'tidegaugelaw1.ChunkReads'. -/
def chunkReadsUptoCard : Claim7 := { stood := { row := chunkReadsUptoRow, standIns := [], harness := (true, "e9ae22c9bfc8c6e874648cd92d4f921baa85c23daddbc3ceb34c563a0b728ade"), looks := true }, kinds := [], alts := [], laidByText := true, laidKinds := [.data, .handle, .sentinel, .sentinel, .sentinel, .sentinel, .sentinel, .sentinel, .sentinel, .sentinel, .sentinel, .sentinel, .sentinel], laidTests := true, laidLooks := .later }
def ChunkReadsUptoCardSaid : Prop := Claim7.holds Tryd.pinned (.plain (OpenSpec.upto chunkReadsSpec)) chunkReadsUptoCard

/-- THE SECOND FORM's CARD OF 'tidegaugelaw1.ChunkPlain'. -/
def chunkPlainUptoCard : Claim7 := { stood := { row := chunkPlainUptoRow, standIns := [], harness := (true, "e9ae22c9bfc8c6e874648cd92d4f921baa85c23daddbc3ceb34c563a0b728ade"), looks := true }, kinds := [], alts := [], laidByText := true, laidKinds := [.data, .handle, .sentinel, .sentinel, .sentinel, .sentinel, .sentinel, .sentinel, .sentinel, .sentinel, .sentinel, .sentinel, .sentinel], laidTests := true, laidLooks := .later }
def ChunkPlainUptoCardSaid : Prop := Claim7.holds Tryd.pinned (.plain (OpenSpec.upto chunkPlainSpec)) chunkPlainUptoCard

/-- THE SECOND FORM's CARD OF 'tidegaugelaw2.HeadRises'. -/
def headRisesUptoCard : Claim7 := { stood := { row := headRisesUptoRow, standIns := [], harness := (true, "e9ae22c9bfc8c6e874648cd92d4f921baa85c23daddbc3ceb34c563a0b728ade"), looks := true }, kinds := [], alts := [], laidByText := true, laidKinds := [.data, .sentinel, .sentinel, .sentinel, .sentinel, .sentinel, .sentinel, .sentinel, .pinned], laidTests := true, laidLooks := .later }
def HeadRisesUptoCardSaid : Prop := Claim7.holds Tryd.pinned (.plain (OpenSpec.upto headRisesSpec)) headRisesUptoCard

/-- THE SECOND FORM's CARD OF 'tidegaugelaw2.HeadMany'. -/
def headManyUptoCard : Claim7 := { stood := { row := headManyUptoRow, standIns := [], harness := (true, "e9ae22c9bfc8c6e874648cd92d4f921baa85c23daddbc3ceb34c563a0b728ade"), looks := true }, kinds := [], alts := [], laidByText := true, laidKinds := [.data, .handle, .sentinel, .sentinel, .sentinel, .sentinel, .sentinel, .sentinel, .sentinel, .sentinel, .sentinel, .sentinel, .sentinel, .pinned], laidTests := true, laidLooks := .later }
def HeadManyUptoCardSaid : Prop := Claim7.holds Tryd.pinned (.plain (OpenSpec.upto headManySpec)) headManyUptoCard
end Rows
end Go.Proofs.YtfnjgminbjopeaaDoor
