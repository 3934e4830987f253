/-
  DERIVED. GIVEN WITH THE SEED: THE CARDS: each row of YtiohnehccmbplaaDoorRows.lean that lists a variable, with what it lists TIED to the program's text (the seventh form; the later family's looks); each row that meets fmt, with fmt's text TOLD by the authors' own Lean function (tested against real Go, not proved from fmt's source: count such statements apart). THE CARD IS WHAT COUNTS. Prove the row's statement (the work); the ties are given (YtiohnehccmbplaaDoorTie.lean); close each card by the builder's one call (the guide's Derived/Test/ToyasCard.lean, 'card_holds'). Laid BY PROGRAM, IN A SANDBOX (cutbox-door.mjs). By AI agents, Wed Nov 11 2026. No macro, syntax, notation, axiom, sorry.
-/
import Derived.Test.YtiohnehccmbplaaDoorRows
import GoSem.ClaimSeven
namespace Go.Proofs.YtiohnehccmbplaaDoor
namespace Rows

/-- THE TIED CARD OF 'tidegaugelaw1.WaveShort'. -/
def waveShortCard : Claim7 := { stood := { row := waveShortRow, standIns := [], harness := (true, "3d31fc2f61a9b074dbb4df9d6c8a9f257eef619e617d8df0ac893e823f35e847"), looks := true }, kinds := [], alts := [], laidByText := true, laidKinds := [.sentinel, .sentinel, .sentinel], laidTests := true, laidLooks := .later }
def WaveShortCardSaid : Prop := Claim7.holds Tryd.pinned (.plain (OpenSpec.ofChange waveShortSpec)) waveShortCard

/-- THE TIED CARD OF 'tidegaugelaw1.Names'. -/
def namesCard : Claim7 := { stood := { row := namesRow, standIns := [], harness := (true, "3d31fc2f61a9b074dbb4df9d6c8a9f257eef619e617d8df0ac893e823f35e847"), looks := true }, kinds := [], alts := [], laidByText := true, laidKinds := [.handle, .sentinel, .sentinel, .sentinel, .sentinel, .sentinel, .sentinel, .sentinel, .sentinel, .sentinel, .sentinel, .sentinel], laidTests := true, laidLooks := .later }
def NamesCardSaid : Prop := Claim7.holds Tryd.pinned (.plain (OpenSpec.ofChange namesSpec)) namesCard

/-- THE TIED CARD OF 'tidegaugelaw3.SumsOf'. -/
def sumsOfCard : Claim7 := { stood := { row := sumsOfRow, standIns := [], harness := (true, "3d31fc2f61a9b074dbb4df9d6c8a9f257eef619e617d8df0ac893e823f35e847"), looks := true }, kinds := [], alts := [], laidByText := true, laidKinds := [.handle, .sentinel, .sentinel, .sentinel, .sentinel, .sentinel, .sentinel, .sentinel, .sentinel, .sentinel, .sentinel, .sentinel], laidTests := true, laidLooks := .later }
def SumsOfCardSaid : Prop := Claim7.holds Tryd.pinned (.plain (OpenSpec.ofChange sumsOfSpec)) sumsOfCard

/-- THE TIED CARD OF 'tidegaugelaw1.BitsRows'. -/
def bitsRowsCard : Claim7 := { stood := { row := bitsRowsRow, standIns := [], harness := (true, "3d31fc2f61a9b074dbb4df9d6c8a9f257eef619e617d8df0ac893e823f35e847"), looks := true }, kinds := [], alts := [], laidByText := true, laidKinds := [.handle, .sentinel, .sentinel, .sentinel, .sentinel, .sentinel, .sentinel, .sentinel, .sentinel, .sentinel, .sentinel, .sentinel], laidTests := true, laidLooks := .later }
def BitsRowsCardSaid : Prop := Claim7.holds Tryd.pinned (.plain (OpenSpec.ofChange bitsRowsSpec)) bitsRowsCard

/-- THE TIED CARD OF 'tidegaugelaw1.WaveReads'. -/
def waveReadsCard : Claim7 := { stood := { row := waveReadsRow, standIns := [], harness := (true, "3d31fc2f61a9b074dbb4df9d6c8a9f257eef619e617d8df0ac893e823f35e847"), looks := true }, kinds := [], alts := [], laidByText := true, laidKinds := [.handle, .sentinel, .sentinel, .sentinel, .sentinel, .sentinel, .sentinel, .sentinel, .sentinel, .sentinel, .sentinel, .sentinel], laidTests := true, laidLooks := .later }
def WaveReadsCardSaid : Prop := Claim7.holds Tryd.pinned (.plain (OpenSpec.ofChange waveReadsSpec)) waveReadsCard

/-- THE TIED CARD OF 'tidegaugelaw1.WaveNumbers'. -/
def waveNumbersCard : Claim7 := { stood := { row := waveNumbersRow, standIns := [], harness := (true, "3d31fc2f61a9b074dbb4df9d6c8a9f257eef619e617d8df0ac893e823f35e847"), looks := true }, kinds := [], alts := [], laidByText := true, laidKinds := [.handle, .sentinel, .sentinel, .sentinel, .sentinel, .sentinel, .sentinel, .sentinel, .sentinel, .sentinel, .sentinel, .sentinel], laidTests := true, laidLooks := .later }
def WaveNumbersCardSaid : Prop := Claim7.holds Tryd.pinned (.plain (OpenSpec.ofChange waveNumbersSpec)) waveNumbersCard

/-- THE TIED CARD OF 'tidegaugelaw1.WaveTicks'. -/
def waveTicksCard : Claim7 := { stood := { row := waveTicksRow, standIns := [], harness := (true, "3d31fc2f61a9b074dbb4df9d6c8a9f257eef619e617d8df0ac893e823f35e847"), looks := true }, kinds := [], alts := [], laidByText := true, laidKinds := [.handle, .sentinel, .sentinel, .sentinel, .sentinel, .sentinel, .sentinel, .sentinel, .sentinel, .sentinel, .sentinel, .sentinel], laidTests := true, laidLooks := .later }
def WaveTicksCardSaid : Prop := Claim7.holds Tryd.pinned (.plain (OpenSpec.ofChange waveTicksSpec)) waveTicksCard

/-- THE TIED CARD OF 'tidegaugelaw1.MaskReads'. -/
def maskReadsCard : Claim7 := { stood := { row := maskReadsRow, standIns := [], harness := (true, "3d31fc2f61a9b074dbb4df9d6c8a9f257eef619e617d8df0ac893e823f35e847"), looks := true }, kinds := [], alts := [], laidByText := true, laidKinds := [.data, .handle, .sentinel, .sentinel, .sentinel, .sentinel, .sentinel, .sentinel, .sentinel, .sentinel, .sentinel, .sentinel, .sentinel], laidTests := true, laidLooks := .later }
def MaskReadsCardSaid : Prop := Claim7.holds Tryd.pinned (.plain (OpenSpec.ofChange maskReadsSpec)) maskReadsCard

/-- THE TIED CARD OF 'tidegaugelaw1.MaskValues'. -/
def maskValuesCard : Claim7 := { stood := { row := maskValuesRow, standIns := [], harness := (true, "3d31fc2f61a9b074dbb4df9d6c8a9f257eef619e617d8df0ac893e823f35e847"), looks := true }, kinds := [], alts := [], laidByText := true, laidKinds := [.data, .handle, .sentinel, .sentinel, .sentinel, .sentinel, .sentinel, .sentinel, .sentinel, .sentinel, .sentinel, .sentinel, .sentinel], laidTests := true, laidLooks := .later }
def MaskValuesCardSaid : Prop := Claim7.holds Tryd.pinned (.plain (OpenSpec.ofChange maskValuesSpec)) maskValuesCard

/-- THE TIED CARD OF 'tidegaugelaw1.ChunkSizes'. -/
def chunkSizesCard : Claim7 := { stood := { row := chunkSizesRow, standIns := [], harness := (true, "3d31fc2f61a9b074dbb4df9d6c8a9f257eef619e617d8df0ac893e823f35e847"), looks := true }, kinds := [], alts := [], laidByText := true, laidKinds := [.data, .sentinel, .sentinel, .sentinel, .sentinel, .sentinel, .sentinel, .sentinel], laidTests := true, laidLooks := .later }
def ChunkSizesCardSaid : Prop := Claim7.holds Tryd.pinned (.plain (OpenSpec.ofChange chunkSizesSpec)) chunkSizesCard

/-- THE TIED CARD OF 'tidegaugelaw1.ChunkMerges'. -/
def chunkMergesCard : Claim7 := { stood := { row := chunkMergesRow, standIns := [], harness := (true, "3d31fc2f61a9b074dbb4df9d6c8a9f257eef619e617d8df0ac893e823f35e847"), looks := true }, kinds := [], alts := [], laidByText := true, laidKinds := [.data, .sentinel, .sentinel, .sentinel, .sentinel, .sentinel, .sentinel, .sentinel], laidTests := true, laidLooks := .later }
def ChunkMergesCardSaid : Prop := Claim7.holds Tryd.pinned (.plain (OpenSpec.ofChange chunkMergesSpec)) chunkMergesCard

/-- THE SECOND FORM's CARD OF 'tidegaugelaw1.WaveShort'. -/
def waveShortUptoCard : Claim7 := { stood := { row := waveShortUptoRow, standIns := [], harness := (true, "3d31fc2f61a9b074dbb4df9d6c8a9f257eef619e617d8df0ac893e823f35e847"), looks := true }, kinds := [], alts := [], laidByText := true, laidKinds := [.sentinel, .sentinel, .sentinel], laidTests := true, laidLooks := .later }
def WaveShortUptoCardSaid : Prop := Claim7.holds Tryd.pinned (.plain (OpenSpec.upto waveShortSpec)) waveShortUptoCard

/-- THE SECOND FORM's CARD OF 'tidegaugelaw1.Names'. -/
def namesUptoCard : Claim7 := { stood := { row := namesUptoRow, standIns := [], harness := (true, "3d31fc2f61a9b074dbb4df9d6c8a9f257eef619e617d8df0ac893e823f35e847"), looks := true }, kinds := [], alts := [], laidByText := true, laidKinds := [.handle, .sentinel, .sentinel, .sentinel, .sentinel, .sentinel, .sentinel, .sentinel, .sentinel, .sentinel, .sentinel, .sentinel], laidTests := true, laidLooks := .later }
def NamesUptoCardSaid : Prop := Claim7.holds Tryd.pinned (.plain (OpenSpec.upto namesSpec)) namesUptoCard

/-- THE SECOND FORM's CARD OF 'tidegaugelaw3.SumsOf'. -/
def sumsOfUptoCard : Claim7 := { stood := { row := sumsOfUptoRow, standIns := [], harness := (true, "3d31fc2f61a9b074dbb4df9d6c8a9f257eef619e617d8df0ac893e823f35e847"), looks := true }, kinds := [], alts := [], laidByText := true, laidKinds := [.handle, .sentinel, .sentinel, .sentinel, .sentinel, .sentinel, .sentinel, .sentinel, .sentinel, .sentinel, .sentinel, .sentinel], laidTests := true, laidLooks := .later }
def SumsOfUptoCardSaid : Prop := Claim7.holds Tryd.pinned (.plain (OpenSpec.upto sumsOfSpec)) sumsOfUptoCard

/-- THE SECOND FORM's CARD OF 'tidegaugelaw1.BitsRows'. -/
def bitsRowsUptoCard : Claim7 := { stood := { row := bitsRowsUptoRow, standIns := [], harness := (true, "3d31fc2f61a9b074dbb4df9d6c8a9f257eef619e617d8df0ac893e823f35e847"), looks := true }, kinds := [], alts := [], laidByText := true, laidKinds := [.handle, .sentinel, .sentinel, .sentinel, .sentinel, .sentinel, .sentinel, .sentinel, .sentinel, .sentinel, .sentinel, .sentinel], laidTests := true, laidLooks := .later }
def BitsRowsUptoCardSaid : Prop := Claim7.holds Tryd.pinned (.plain (OpenSpec.upto bitsRowsSpec)) bitsRowsUptoCard

/-- THE SECOND FORM's CARD OF 'tidegaugelaw1.WaveReads'. -/
def waveReadsUptoCard : Claim7 := { stood := { row := waveReadsUptoRow, standIns := [], harness := (true, "3d31fc2f61a9b074dbb4df9d6c8a9f257eef619e617d8df0ac893e823f35e847"), looks := true }, kinds := [], alts := [], laidByText := true, laidKinds := [.handle, .sentinel, .sentinel, .sentinel, .sentinel, .sentinel, .sentinel, .sentinel, .sentinel, .sentinel, .sentinel, .sentinel], laidTests := true, laidLooks := .later }
def WaveReadsUptoCardSaid : Prop := Claim7.holds Tryd.pinned (.plain (OpenSpec.upto waveReadsSpec)) waveReadsUptoCard

/-- THE SECOND FORM's CARD OF 'tidegaugelaw1.WaveNumbers'. -/
def waveNumbersUptoCard : Claim7 := { stood := { row := waveNumbersUptoRow, standIns := [], harness := (true, "3d31fc2f61a9b074dbb4df9d6c8a9f257eef619e617d8df0ac893e823f35e847"), looks := true }, kinds := [], alts := [], laidByText := true, laidKinds := [.handle, .sentinel, .sentinel, .sentinel, .sentinel, .sentinel, .sentinel, .sentinel, .sentinel, .sentinel, .sentinel, .sentinel], laidTests := true, laidLooks := .later }
def WaveNumbersUptoCardSaid : Prop := Claim7.holds Tryd.pinned (.plain (OpenSpec.upto waveNumbersSpec)) waveNumbersUptoCard

/-- THE SECOND FORM's CARD OF 'tidegaugelaw1.WaveTicks'. -/
def waveTicksUptoCard : Claim7 := { stood := { row := waveTicksUptoRow, standIns := [], harness := (true, "3d31fc2f61a9b074dbb4df9d6c8a9f257eef619e617d8df0ac893e823f35e847"), looks := true }, kinds := [], alts := [], laidByText := true, laidKinds := [.handle, .sentinel, .sentinel, .sentinel, .sentinel, .sentinel, .sentinel, .sentinel, .sentinel, .sentinel, .sentinel, .sentinel], laidTests := true, laidLooks := .later }
def WaveTicksUptoCardSaid : Prop := Claim7.holds Tryd.pinned (.plain (OpenSpec.upto waveTicksSpec)) waveTicksUptoCard

/-- THE SECOND FORM's CARD OF 'tidegaugelaw1.MaskReads'. -/
def maskReadsUptoCard : Claim7 := { stood := { row := maskReadsUptoRow, standIns := [], harness := (true, "3d31fc2f61a9b074dbb4df9d6c8a9f257eef619e617d8df0ac893e823f35e847"), looks := true }, kinds := [], alts := [], laidByText := true, laidKinds := [.data, .handle, .sentinel, .sentinel, .sentinel, .sentinel, .sentinel, .sentinel, .sentinel, .sentinel, .sentinel, .sentinel, .sentinel], laidTests := true, laidLooks := .later }
def MaskReadsUptoCardSaid : Prop := Claim7.holds Tryd.pinned (.plain (OpenSpec.upto maskReadsSpec)) maskReadsUptoCard

/-- THE SECOND FORM's CARD OF 'tidegaugelaw1.MaskValues'. -/
def maskValuesUptoCard : Claim7 := { stood := { row := maskValuesUptoRow, standIns := [], harness := (true, "3d31fc2f61a9b074dbb4df9d6c8a9f257eef619e617d8df0ac893e823f35e847"), looks := true }, kinds := [], alts := [], laidByText := true, laidKinds := [.data, .handle, .sentinel, .sentinel, .sentinel, .sentinel, .sentinel, .sentinel, .sentinel, .sentinel, .sentinel, .sentinel, .sentinel], laidTests := true, laidLooks := .later }
def MaskValuesUptoCardSaid : Prop := Claim7.holds Tryd.pinned (.plain (OpenSpec.upto maskValuesSpec)) maskValuesUptoCard

/-- THE SECOND FORM's CARD OF 'tidegaugelaw1.ChunkSizes'. -/
def chunkSizesUptoCard : Claim7 := { stood := { row := chunkSizesUptoRow, standIns := [], harness := (true, "3d31fc2f61a9b074dbb4df9d6c8a9f257eef619e617d8df0ac893e823f35e847"), looks := true }, kinds := [], alts := [], laidByText := true, laidKinds := [.data, .sentinel, .sentinel, .sentinel, .sentinel, .sentinel, .sentinel, .sentinel], laidTests := true, laidLooks := .later }
def ChunkSizesUptoCardSaid : Prop := Claim7.holds Tryd.pinned (.plain (OpenSpec.upto chunkSizesSpec)) chunkSizesUptoCard

/-- THE SECOND FORM's CARD OF 'tidegaugelaw1.ChunkMerges'. -/
def chunkMergesUptoCard : Claim7 := { stood := { row := chunkMergesUptoRow, standIns := [], harness := (true, "3d31fc2f61a9b074dbb4df9d6c8a9f257eef619e617d8df0ac893e823f35e847"), looks := true }, kinds := [], alts := [], laidByText := true, laidKinds := [.data, .sentinel, .sentinel, .sentinel, .sentinel, .sentinel, .sentinel, .sentinel], laidTests := true, laidLooks := .later }
def ChunkMergesUptoCardSaid : Prop := Claim7.holds Tryd.pinned (.plain (OpenSpec.upto chunkMergesSpec)) chunkMergesUptoCard
end Rows
end Go.Proofs.YtiohnehccmbplaaDoor
