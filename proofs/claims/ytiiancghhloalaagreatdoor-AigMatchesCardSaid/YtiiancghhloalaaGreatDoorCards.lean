/-
  DERIVED. GIVEN WITH THE SEED: THE CARDS: each row of YtiiancghhloalaaGreatDoorRows.lean that lists a variable, with what it lists TIED to the program's text (the seventh form; the later family's looks); each row that meets fmt, with fmt's text TOLD by the authors' own Lean function (tested against real Go, not proved from fmt's source: count such statements apart). THE CARD IS WHAT COUNTS. Prove the row's statement (the work); the ties are given (YtiiancghhloalaaGreatDoorTie.lean); close each card by the builder's one call (the guide's Derived/Test/ToyasCard.lean, 'card_holds'). Laid BY PROGRAM, IN A SANDBOX (cutbox-door.mjs). By AI agents, Wed Nov 11 2026. No macro, syntax, notation, axiom, sorry.
-/
import Derived.Test.YtiiancghhloalaaGreatDoorRows
import GoSem.ClaimSeven
namespace Go.Proofs.YtiiancghhloalaaGreatDoor
namespace Rows

/-- THE TIED CARD OF 'netlablaw20.AigRunsMatch'. -/
def aigRunsMatchCard : Claim7 := { stood := { row := aigRunsMatchRow, standIns := [], harness := (true, "c9aa291a576c7691b3d70bb04f4bf72ea702a6559296e0c6408491d0c6af6747"), looks := true }, kinds := [], alts := [], laidByText := true, laidKinds := [.data, .data, .data, .data, .sentinel, .sentinel, .pinned], laidTests := true, laidLooks := .later }
def AigRunsMatchCardSaid : Prop := Claim7.holds Tryz.pinned (.plain (OpenSpec.ofChange aigRunsMatchSpec)) aigRunsMatchCard

/-- THE TIED CARD OF 'netlablaw20.AigHashMatches'. -/
def aigHashMatchesCard : Claim7 := { stood := { row := aigHashMatchesRow, standIns := [], harness := (true, "c9aa291a576c7691b3d70bb04f4bf72ea702a6559296e0c6408491d0c6af6747"), looks := true }, kinds := [], alts := [], laidByText := true, laidKinds := [.data, .data, .data, .data, .sentinel, .sentinel, .pinned], laidTests := true, laidLooks := .later }
def AigHashMatchesCardSaid : Prop := Claim7.holds Tryz.pinned (.plain (OpenSpec.ofChange aigHashMatchesSpec)) aigHashMatchesCard

/-- THE TIED CARD OF 'netlablaw20.AigTextMatches'. -/
def aigTextMatchesCard : Claim7 := { stood := { row := aigTextMatchesRow, standIns := [], harness := (true, "c9aa291a576c7691b3d70bb04f4bf72ea702a6559296e0c6408491d0c6af6747"), looks := true }, kinds := [], alts := [], laidByText := true, laidKinds := [.data, .data, .data, .data, .sentinel, .sentinel, .pinned], laidTests := true, laidLooks := .later }
def AigTextMatchesCardSaid : Prop := Claim7.holds Tryz.pinned (.plain (OpenSpec.ofChange aigTextMatchesSpec)) aigTextMatchesCard

/-- THE TIED CARD OF 'netlablaw20.AigHashKeeps'. -/
def aigHashKeepsCard : Claim7 := { stood := { row := aigHashKeepsRow, standIns := [], harness := (true, "c9aa291a576c7691b3d70bb04f4bf72ea702a6559296e0c6408491d0c6af6747"), looks := true }, kinds := [], alts := [], laidByText := true, laidKinds := [.data, .data, .data, .data, .sentinel, .sentinel, .pinned], laidTests := true, laidLooks := .later }
def AigHashKeepsCardSaid : Prop := Claim7.holds Tryz.pinned (.plain (OpenSpec.ofChange aigHashKeepsSpec)) aigHashKeepsCard

/-- THE TIED CARD OF 'netlablaw20.AigParts'. -/
def aigPartsCard : Claim7 := { stood := { row := aigPartsRow, standIns := [], harness := (true, "c9aa291a576c7691b3d70bb04f4bf72ea702a6559296e0c6408491d0c6af6747"), looks := true }, kinds := [], alts := [], laidByText := true, laidKinds := [.data, .data, .data, .data, .sentinel, .sentinel, .pinned], laidTests := true, laidLooks := .later }
def AigPartsCardSaid : Prop := Claim7.holds Tryz.pinned (.plain (OpenSpec.ofChange aigPartsSpec)) aigPartsCard

/-- THE TIED CARD OF 'netlablaw20.AigText'. -/
def aigTextCard : Claim7 := { stood := { row := aigTextRow, standIns := [], harness := (true, "c9aa291a576c7691b3d70bb04f4bf72ea702a6559296e0c6408491d0c6af6747"), looks := true }, kinds := [], alts := [], laidByText := true, laidKinds := [.data, .data, .data, .data, .sentinel, .sentinel, .pinned], laidTests := true, laidLooks := .later }
def AigTextCardSaid : Prop := Claim7.holds Tryz.pinned (.plain (OpenSpec.ofChange aigTextSpec)) aigTextCard

/-- THE TIED CARD OF 'netlablaw20.AigMatches'. -/
def aigMatchesCard : Claim7 := { stood := { row := aigMatchesRow, standIns := [], harness := (true, "c9aa291a576c7691b3d70bb04f4bf72ea702a6559296e0c6408491d0c6af6747"), looks := true }, kinds := [], alts := [], laidByText := true, laidKinds := [.data, .data, .data, .data, .sentinel, .sentinel, .pinned], laidTests := true, laidLooks := .later }
def AigMatchesCardSaid : Prop := Claim7.holds Tryz.pinned (.plain (OpenSpec.ofChange aigMatchesSpec)) aigMatchesCard

/-- THE TIED CARD OF 'netlablaw20.AigHashTwice'. -/
def aigHashTwiceCard : Claim7 := { stood := { row := aigHashTwiceRow, standIns := [], harness := (true, "c9aa291a576c7691b3d70bb04f4bf72ea702a6559296e0c6408491d0c6af6747"), looks := true }, kinds := [], alts := [], laidByText := true, laidKinds := [.data, .data, .data, .data, .sentinel, .sentinel, .pinned], laidTests := true, laidLooks := .later }
def AigHashTwiceCardSaid : Prop := Claim7.holds Tryz.pinned (.plain (OpenSpec.ofChange aigHashTwiceSpec)) aigHashTwiceCard

/-- THE TIED CARD OF 'netlablaw20.AigBuilds'. -/
def aigBuildsCard : Claim7 := { stood := { row := aigBuildsRow, standIns := [], harness := (true, "c9aa291a576c7691b3d70bb04f4bf72ea702a6559296e0c6408491d0c6af6747"), looks := true }, kinds := [], alts := [], laidByText := true, laidKinds := [.data, .data, .data, .data, .sentinel, .sentinel, .pinned], laidTests := true, laidLooks := .later }
def AigBuildsCardSaid : Prop := Claim7.holds Tryz.pinned (.plain (OpenSpec.ofChange aigBuildsSpec)) aigBuildsCard

/-- THE TIED CARD OF 'netlablaw20.AigBuilderMatches'. -/
def aigBuilderMatchesCard : Claim7 := { stood := { row := aigBuilderMatchesRow, standIns := [], harness := (true, "c9aa291a576c7691b3d70bb04f4bf72ea702a6559296e0c6408491d0c6af6747"), looks := true }, kinds := [], alts := [], laidByText := true, laidKinds := [.data, .data, .data, .data, .sentinel, .sentinel, .pinned], laidTests := true, laidLooks := .later }
def AigBuilderMatchesCardSaid : Prop := Claim7.holds Tryz.pinned (.plain (OpenSpec.ofChange aigBuilderMatchesSpec)) aigBuilderMatchesCard

/-- THE TIED CARD OF 'netlablaw20.AigExamples'. -/
def aigExamplesCard : Claim7 := { stood := { row := aigExamplesRow, standIns := [], harness := (true, "c9aa291a576c7691b3d70bb04f4bf72ea702a6559296e0c6408491d0c6af6747"), looks := true }, kinds := [], alts := [], laidByText := true, laidKinds := [.data, .data, .data, .data, .sentinel, .sentinel, .pinned], laidTests := true, laidLooks := .later }
def AigExamplesCardSaid : Prop := Claim7.holds Tryz.pinned (.plain (OpenSpec.ofChange aigExamplesSpec)) aigExamplesCard

/-- THE SECOND FORM's CARD OF 'netlablaw20.AigRunsMatch'. -/
def aigRunsMatchUptoCard : Claim7 := { stood := { row := aigRunsMatchUptoRow, standIns := [], harness := (true, "c9aa291a576c7691b3d70bb04f4bf72ea702a6559296e0c6408491d0c6af6747"), looks := true }, kinds := [], alts := [], laidByText := true, laidKinds := [.data, .data, .data, .data, .sentinel, .sentinel, .pinned], laidTests := true, laidLooks := .later }
def AigRunsMatchUptoCardSaid : Prop := Claim7.holds Tryz.pinned (.plain (OpenSpec.upto aigRunsMatchSpec)) aigRunsMatchUptoCard

/-- THE SECOND FORM's CARD OF 'netlablaw20.AigHashMatches'. -/
def aigHashMatchesUptoCard : Claim7 := { stood := { row := aigHashMatchesUptoRow, standIns := [], harness := (true, "c9aa291a576c7691b3d70bb04f4bf72ea702a6559296e0c6408491d0c6af6747"), looks := true }, kinds := [], alts := [], laidByText := true, laidKinds := [.data, .data, .data, .data, .sentinel, .sentinel, .pinned], laidTests := true, laidLooks := .later }
def AigHashMatchesUptoCardSaid : Prop := Claim7.holds Tryz.pinned (.plain (OpenSpec.upto aigHashMatchesSpec)) aigHashMatchesUptoCard

/-- THE SECOND FORM's CARD OF 'netlablaw20.AigTextMatches'. -/
def aigTextMatchesUptoCard : Claim7 := { stood := { row := aigTextMatchesUptoRow, standIns := [], harness := (true, "c9aa291a576c7691b3d70bb04f4bf72ea702a6559296e0c6408491d0c6af6747"), looks := true }, kinds := [], alts := [], laidByText := true, laidKinds := [.data, .data, .data, .data, .sentinel, .sentinel, .pinned], laidTests := true, laidLooks := .later }
def AigTextMatchesUptoCardSaid : Prop := Claim7.holds Tryz.pinned (.plain (OpenSpec.upto aigTextMatchesSpec)) aigTextMatchesUptoCard

/-- THE SECOND FORM's CARD OF 'netlablaw20.AigHashKeeps'. -/
def aigHashKeepsUptoCard : Claim7 := { stood := { row := aigHashKeepsUptoRow, standIns := [], harness := (true, "c9aa291a576c7691b3d70bb04f4bf72ea702a6559296e0c6408491d0c6af6747"), looks := true }, kinds := [], alts := [], laidByText := true, laidKinds := [.data, .data, .data, .data, .sentinel, .sentinel, .pinned], laidTests := true, laidLooks := .later }
def AigHashKeepsUptoCardSaid : Prop := Claim7.holds Tryz.pinned (.plain (OpenSpec.upto aigHashKeepsSpec)) aigHashKeepsUptoCard

/-- THE SECOND FORM's CARD OF 'netlablaw20.AigParts'. -/
def aigPartsUptoCard : Claim7 := { stood := { row := aigPartsUptoRow, standIns := [], harness := (true, "c9aa291a576c7691b3d70bb04f4bf72ea702a6559296e0c6408491d0c6af6747"), looks := true }, kinds := [], alts := [], laidByText := true, laidKinds := [.data, .data, .data, .data, .sentinel, .sentinel, .pinned], laidTests := true, laidLooks := .later }
def AigPartsUptoCardSaid : Prop := Claim7.holds Tryz.pinned (.plain (OpenSpec.upto aigPartsSpec)) aigPartsUptoCard

/-- THE SECOND FORM's CARD OF 'netlablaw20.AigText'. -/
def aigTextUptoCard : Claim7 := { stood := { row := aigTextUptoRow, standIns := [], harness := (true, "c9aa291a576c7691b3d70bb04f4bf72ea702a6559296e0c6408491d0c6af6747"), looks := true }, kinds := [], alts := [], laidByText := true, laidKinds := [.data, .data, .data, .data, .sentinel, .sentinel, .pinned], laidTests := true, laidLooks := .later }
def AigTextUptoCardSaid : Prop := Claim7.holds Tryz.pinned (.plain (OpenSpec.upto aigTextSpec)) aigTextUptoCard

/-- THE SECOND FORM's CARD OF 'netlablaw20.AigMatches'. -/
def aigMatchesUptoCard : Claim7 := { stood := { row := aigMatchesUptoRow, standIns := [], harness := (true, "c9aa291a576c7691b3d70bb04f4bf72ea702a6559296e0c6408491d0c6af6747"), looks := true }, kinds := [], alts := [], laidByText := true, laidKinds := [.data, .data, .data, .data, .sentinel, .sentinel, .pinned], laidTests := true, laidLooks := .later }
def AigMatchesUptoCardSaid : Prop := Claim7.holds Tryz.pinned (.plain (OpenSpec.upto aigMatchesSpec)) aigMatchesUptoCard

/-- THE SECOND FORM's CARD OF 'netlablaw20.AigHashTwice'. -/
def aigHashTwiceUptoCard : Claim7 := { stood := { row := aigHashTwiceUptoRow, standIns := [], harness := (true, "c9aa291a576c7691b3d70bb04f4bf72ea702a6559296e0c6408491d0c6af6747"), looks := true }, kinds := [], alts := [], laidByText := true, laidKinds := [.data, .data, .data, .data, .sentinel, .sentinel, .pinned], laidTests := true, laidLooks := .later }
def AigHashTwiceUptoCardSaid : Prop := Claim7.holds Tryz.pinned (.plain (OpenSpec.upto aigHashTwiceSpec)) aigHashTwiceUptoCard

/-- THE SECOND FORM's CARD OF 'netlablaw20.AigBuilds'. -/
def aigBuildsUptoCard : Claim7 := { stood := { row := aigBuildsUptoRow, standIns := [], harness := (true, "c9aa291a576c7691b3d70bb04f4bf72ea702a6559296e0c6408491d0c6af6747"), looks := true }, kinds := [], alts := [], laidByText := true, laidKinds := [.data, .data, .data, .data, .sentinel, .sentinel, .pinned], laidTests := true, laidLooks := .later }
def AigBuildsUptoCardSaid : Prop := Claim7.holds Tryz.pinned (.plain (OpenSpec.upto aigBuildsSpec)) aigBuildsUptoCard

/-- THE SECOND FORM's CARD OF 'netlablaw20.AigBuilderMatches'. -/
def aigBuilderMatchesUptoCard : Claim7 := { stood := { row := aigBuilderMatchesUptoRow, standIns := [], harness := (true, "c9aa291a576c7691b3d70bb04f4bf72ea702a6559296e0c6408491d0c6af6747"), looks := true }, kinds := [], alts := [], laidByText := true, laidKinds := [.data, .data, .data, .data, .sentinel, .sentinel, .pinned], laidTests := true, laidLooks := .later }
def AigBuilderMatchesUptoCardSaid : Prop := Claim7.holds Tryz.pinned (.plain (OpenSpec.upto aigBuilderMatchesSpec)) aigBuilderMatchesUptoCard

/-- THE SECOND FORM's CARD OF 'netlablaw20.AigExamples'. -/
def aigExamplesUptoCard : Claim7 := { stood := { row := aigExamplesUptoRow, standIns := [], harness := (true, "c9aa291a576c7691b3d70bb04f4bf72ea702a6559296e0c6408491d0c6af6747"), looks := true }, kinds := [], alts := [], laidByText := true, laidKinds := [.data, .data, .data, .data, .sentinel, .sentinel, .pinned], laidTests := true, laidLooks := .later }
def AigExamplesUptoCardSaid : Prop := Claim7.holds Tryz.pinned (.plain (OpenSpec.upto aigExamplesSpec)) aigExamplesUptoCard
end Rows
end Go.Proofs.YtiiancghhloalaaGreatDoor
