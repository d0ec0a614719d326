/-
  DERIVED. GIVEN WITH THE SEED: THE CARDS: each row of YtdbihpobfcbmeaaDoorRows.lean that lists a variable, with what it lists TIED to the program's text (the seventh form; the later family's looks); each row that meets fmt, with fmt's text TOLD by the authors' own Lean function (tested against real Go, not proved from fmt's source: count such statements apart). THE CARD IS WHAT COUNTS. Prove the row's statement (the work); the ties are given (YtdbihpobfcbmeaaDoorTie.lean); close each card by the builder's one call (the guide's Derived/Test/ToyasCard.lean, 'card_holds'). Laid BY PROGRAM, IN A SANDBOX (cutbox-door.mjs). By AI agents, Wed Nov 11 2026. No macro, syntax, notation, axiom, sorry.
-/
import Derived.Test.YtdbihpobfcbmeaaDoorRows
import GoSem.ClaimSeven
namespace Go.Proofs.YtdbihpobfcbmeaaDoor
namespace Rows

/-- THE TIED CARD OF 'sealringlaw52.MatchGlobs'. -/
def matchGlobsCard : Claim7 := { stood := { row := matchGlobsRow, standIns := [], harness := (true, "50ce0c6cac3d07a478a1146fd5bd56b7645c9c51f2a536b95c198c7cedcd0152"), looks := false }, kinds := [], alts := [], laidByText := true, laidKinds := [.data, .pinned], laidTests := true, laidLooks := .later }
def MatchGlobsCardSaid : Prop := Claim7.holds Tryd.pinned (.plain (OpenSpec.ofChange matchGlobsSpec)) matchGlobsCard

/-- THE TIED CARD OF 'sealringlaw52.MatchPicks'. -/
def matchPicksCard : Claim7 := { stood := { row := matchPicksRow, standIns := [], harness := (true, "50ce0c6cac3d07a478a1146fd5bd56b7645c9c51f2a536b95c198c7cedcd0152"), looks := false }, kinds := [], alts := [], laidByText := true, laidKinds := [.data, .pinned], laidTests := true, laidLooks := .later }
def MatchPicksCardSaid : Prop := Claim7.holds Tryd.pinned (.plain (OpenSpec.ofChange matchPicksSpec)) matchPicksCard

/-- THE TIED CARD OF 'sealringlaw27.HostTells'. -/
def hostTellsCard : Claim7 := { stood := { row := hostTellsRow, standIns := [], harness := (true, "50ce0c6cac3d07a478a1146fd5bd56b7645c9c51f2a536b95c198c7cedcd0152"), looks := false }, kinds := [], alts := [], laidByText := true, laidKinds := [.data, .pinned], laidTests := true, laidLooks := .later }
def HostTellsCardSaid : Prop := Claim7.holds Tryd.pinned (.plain (OpenSpec.ofChange hostTellsSpec)) hostTellsCard

/-- THE TIED CARD OF 'sealringlaw49.ReportLines'. -/
def reportLinesCard : Claim7 := { stood := { row := reportLinesRow, standIns := [], harness := (true, "50ce0c6cac3d07a478a1146fd5bd56b7645c9c51f2a536b95c198c7cedcd0152"), looks := false }, kinds := [], alts := [], laidByText := true, laidKinds := [.data, .data, .data], laidTests := true, laidLooks := .later }
def ReportLinesCardSaid : Prop := Claim7.holds Tryd.pinned (.plain (OpenSpec.ofChange reportLinesSpec)) reportLinesCard

/-- THE TIED CARD OF 'sealringlaw08.TrailTexts'. -/
def trailTextsCard : Claim7 := { stood := { row := trailTextsRow, standIns := [], harness := (true, "50ce0c6cac3d07a478a1146fd5bd56b7645c9c51f2a536b95c198c7cedcd0152"), looks := false }, kinds := [], alts := [], laidByText := true, laidKinds := [.data, .pinned], laidTests := true, laidLooks := .later }
def TrailTextsCardSaid : Prop := Claim7.holds Tryd.pinned (.plain (OpenSpec.ofChange trailTextsSpec)) trailTextsCard

/-- THE TIED CARD OF 'sealringlaw28.IdentTells'. -/
def identTellsCard : Claim7 := { stood := { row := identTellsRow, standIns := [], harness := (true, "50ce0c6cac3d07a478a1146fd5bd56b7645c9c51f2a536b95c198c7cedcd0152"), looks := false }, kinds := [], alts := [], laidByText := true, laidKinds := [.data, .pinned], laidTests := true, laidLooks := .later }
def IdentTellsCardSaid : Prop := Claim7.holds Tryd.pinned (.plain (OpenSpec.ofChange identTellsSpec)) identTellsCard

/-- THE TIED CARD OF 'sealringlaw27.HostBack'. -/
def hostBackCard : Claim7 := { stood := { row := hostBackRow, standIns := [], harness := (true, "50ce0c6cac3d07a478a1146fd5bd56b7645c9c51f2a536b95c198c7cedcd0152"), looks := false }, kinds := [], alts := [], laidByText := true, laidKinds := [.data, .data, .data, .data, .pinned], laidTests := true, laidLooks := .later }
def HostBackCardSaid : Prop := Claim7.holds Tryd.pinned (.plain (OpenSpec.ofChange hostBackSpec)) hostBackCard

/-- THE TIED CARD OF 'sealringlaw30.CapsRefs'. -/
def capsRefsCard : Claim7 := { stood := { row := capsRefsRow, standIns := [], harness := (true, "50ce0c6cac3d07a478a1146fd5bd56b7645c9c51f2a536b95c198c7cedcd0152"), looks := false }, kinds := [], alts := [], laidByText := true, laidKinds := [.data, .pinned], laidTests := true, laidLooks := .later }
def CapsRefsCardSaid : Prop := Claim7.holds Tryd.pinned (.plain (OpenSpec.ofChange capsRefsSpec)) capsRefsCard

/-- THE TIED CARD OF 'sealringlaw08.TrailWays'. -/
def trailWaysCard : Claim7 := { stood := { row := trailWaysRow, standIns := [], harness := (true, "50ce0c6cac3d07a478a1146fd5bd56b7645c9c51f2a536b95c198c7cedcd0152"), looks := false }, kinds := [], alts := [], laidByText := true, laidKinds := [.data, .data, .data, .data, .pinned], laidTests := true, laidLooks := .later }
def TrailWaysCardSaid : Prop := Claim7.holds Tryd.pinned (.plain (OpenSpec.ofChange trailWaysSpec)) trailWaysCard

/-- THE SECOND FORM's CARD OF 'sealringlaw52.MatchGlobs'. -/
def matchGlobsUptoCard : Claim7 := { stood := { row := matchGlobsUptoRow, standIns := [], harness := (true, "50ce0c6cac3d07a478a1146fd5bd56b7645c9c51f2a536b95c198c7cedcd0152"), looks := false }, kinds := [], alts := [], laidByText := true, laidKinds := [.data, .pinned], laidTests := true, laidLooks := .later }
def MatchGlobsUptoCardSaid : Prop := Claim7.holds Tryd.pinned (.plain (OpenSpec.upto matchGlobsSpec)) matchGlobsUptoCard

/-- THE SECOND FORM's CARD OF 'sealringlaw52.MatchPicks'. -/
def matchPicksUptoCard : Claim7 := { stood := { row := matchPicksUptoRow, standIns := [], harness := (true, "50ce0c6cac3d07a478a1146fd5bd56b7645c9c51f2a536b95c198c7cedcd0152"), looks := false }, kinds := [], alts := [], laidByText := true, laidKinds := [.data, .pinned], laidTests := true, laidLooks := .later }
def MatchPicksUptoCardSaid : Prop := Claim7.holds Tryd.pinned (.plain (OpenSpec.upto matchPicksSpec)) matchPicksUptoCard

/-- THE SECOND FORM's CARD OF 'sealringlaw27.HostTells'. -/
def hostTellsUptoCard : Claim7 := { stood := { row := hostTellsUptoRow, standIns := [], harness := (true, "50ce0c6cac3d07a478a1146fd5bd56b7645c9c51f2a536b95c198c7cedcd0152"), looks := false }, kinds := [], alts := [], laidByText := true, laidKinds := [.data, .pinned], laidTests := true, laidLooks := .later }
def HostTellsUptoCardSaid : Prop := Claim7.holds Tryd.pinned (.plain (OpenSpec.upto hostTellsSpec)) hostTellsUptoCard

/-- THE SECOND FORM's CARD OF 'sealringlaw49.ReportLines'. -/
def reportLinesUptoCard : Claim7 := { stood := { row := reportLinesUptoRow, standIns := [], harness := (true, "50ce0c6cac3d07a478a1146fd5bd56b7645c9c51f2a536b95c198c7cedcd0152"), looks := false }, kinds := [], alts := [], laidByText := true, laidKinds := [.data, .data, .data], laidTests := true, laidLooks := .later }
def ReportLinesUptoCardSaid : Prop := Claim7.holds Tryd.pinned (.plain (OpenSpec.upto reportLinesSpec)) reportLinesUptoCard

/-- THE SECOND FORM's CARD OF 'sealringlaw08.TrailTexts'. -/
def trailTextsUptoCard : Claim7 := { stood := { row := trailTextsUptoRow, standIns := [], harness := (true, "50ce0c6cac3d07a478a1146fd5bd56b7645c9c51f2a536b95c198c7cedcd0152"), looks := false }, kinds := [], alts := [], laidByText := true, laidKinds := [.data, .pinned], laidTests := true, laidLooks := .later }
def TrailTextsUptoCardSaid : Prop := Claim7.holds Tryd.pinned (.plain (OpenSpec.upto trailTextsSpec)) trailTextsUptoCard

/-- THE SECOND FORM's CARD OF 'sealringlaw28.IdentTells'. -/
def identTellsUptoCard : Claim7 := { stood := { row := identTellsUptoRow, standIns := [], harness := (true, "50ce0c6cac3d07a478a1146fd5bd56b7645c9c51f2a536b95c198c7cedcd0152"), looks := false }, kinds := [], alts := [], laidByText := true, laidKinds := [.data, .pinned], laidTests := true, laidLooks := .later }
def IdentTellsUptoCardSaid : Prop := Claim7.holds Tryd.pinned (.plain (OpenSpec.upto identTellsSpec)) identTellsUptoCard

/-- THE SECOND FORM's CARD OF 'sealringlaw27.HostBack'. -/
def hostBackUptoCard : Claim7 := { stood := { row := hostBackUptoRow, standIns := [], harness := (true, "50ce0c6cac3d07a478a1146fd5bd56b7645c9c51f2a536b95c198c7cedcd0152"), looks := false }, kinds := [], alts := [], laidByText := true, laidKinds := [.data, .data, .data, .data, .pinned], laidTests := true, laidLooks := .later }
def HostBackUptoCardSaid : Prop := Claim7.holds Tryd.pinned (.plain (OpenSpec.upto hostBackSpec)) hostBackUptoCard

/-- THE SECOND FORM's CARD OF 'sealringlaw30.CapsRefs'. -/
def capsRefsUptoCard : Claim7 := { stood := { row := capsRefsUptoRow, standIns := [], harness := (true, "50ce0c6cac3d07a478a1146fd5bd56b7645c9c51f2a536b95c198c7cedcd0152"), looks := false }, kinds := [], alts := [], laidByText := true, laidKinds := [.data, .pinned], laidTests := true, laidLooks := .later }
def CapsRefsUptoCardSaid : Prop := Claim7.holds Tryd.pinned (.plain (OpenSpec.upto capsRefsSpec)) capsRefsUptoCard

/-- THE SECOND FORM's CARD OF 'sealringlaw08.TrailWays'. -/
def trailWaysUptoCard : Claim7 := { stood := { row := trailWaysUptoRow, standIns := [], harness := (true, "50ce0c6cac3d07a478a1146fd5bd56b7645c9c51f2a536b95c198c7cedcd0152"), looks := false }, kinds := [], alts := [], laidByText := true, laidKinds := [.data, .data, .data, .data, .pinned], laidTests := true, laidLooks := .later }
def TrailWaysUptoCardSaid : Prop := Claim7.holds Tryd.pinned (.plain (OpenSpec.upto trailWaysSpec)) trailWaysUptoCard
end Rows
end Go.Proofs.YtdbihpobfcbmeaaDoor
