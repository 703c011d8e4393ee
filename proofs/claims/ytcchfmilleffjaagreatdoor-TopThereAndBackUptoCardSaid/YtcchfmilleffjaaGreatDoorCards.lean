/-
  DERIVED. GIVEN WITH THE SEED: THE CARDS: each row of YtcchfmilleffjaaGreatDoorRows.lean that lists a variable, with what it lists TIED to the program's text (the seventh form; the later family's looks); each row that meets fmt, with fmt's text TOLD by the authors' own Lean function (tested against real Go, not proved from fmt's source: count such statements apart). THE CARD IS WHAT COUNTS. Prove the row's statement (the work); the ties are given (YtcchfmilleffjaaGreatDoorTie.lean); close each card by the builder's one call (the guide's Derived/Test/ToyasCard.lean, 'card_holds'). Laid BY PROGRAM, IN A SANDBOX (cutbox-door.mjs). By AI agents, Wed Nov 11 2026. No macro, syntax, notation, axiom, sorry.
-/
import Derived.Test.YtcchfmilleffjaaGreatDoorRows
import GoSem.ClaimSeven
namespace Go.Proofs.YtcchfmilleffjaaGreatDoor
namespace Rows

/-- THE TIED CARD OF 'outlaw2.StepsMatch'. -/
def stepsMatchCard : Claim7 := { stood := { row := stepsMatchRow, standIns := [], harness := (true, "aeb0add731a4f582accde186f117aaaf8ae8cfd6768189a218248bd806e4ebd6"), looks := true }, kinds := [], alts := [], laidByText := true, laidKinds := [.data, .pinned], laidTests := true, laidLooks := .later }
def StepsMatchCardSaid : Prop := Claim7.holds Tryz.pinned (.plain (OpenSpec.ofChange stepsMatchSpec)) stepsMatchCard

/-- THE TIED CARD OF 'outtop.TopThereAndBack'. -/
def topThereAndBackCard : Claim7 := { stood := { row := topThereAndBackRow, standIns := [], harness := (true, "aeb0add731a4f582accde186f117aaaf8ae8cfd6768189a218248bd806e4ebd6"), looks := true }, kinds := [], alts := [], laidByText := true, laidKinds := [.data, .data, .data, .data, .sentinel, .sentinel, .pinned], laidTests := true, laidLooks := .later }
def TopThereAndBackCardSaid : Prop := Claim7.holds Tryz.pinned (.plain (OpenSpec.ofChange topThereAndBackSpec)) topThereAndBackCard

/-- THE TIED CARD OF 'outlaw2.RunsMatch'. -/
def runsMatchCard : Claim7 := { stood := { row := runsMatchRow, standIns := [], harness := (true, "aeb0add731a4f582accde186f117aaaf8ae8cfd6768189a218248bd806e4ebd6"), looks := true }, kinds := [], alts := [], laidByText := true, laidKinds := [.data, .data, .data, .data, .sentinel, .sentinel, .pinned], laidTests := true, laidLooks := .later }
def RunsMatchCardSaid : Prop := Claim7.holds Tryz.pinned (.plain (OpenSpec.ofChange runsMatchSpec)) runsMatchCard

/-- THE TIED CARD OF 'outlaw2.MovesMatch'. -/
def movesMatchCard : Claim7 := { stood := { row := movesMatchRow, standIns := [], harness := (true, "aeb0add731a4f582accde186f117aaaf8ae8cfd6768189a218248bd806e4ebd6"), looks := true }, kinds := [], alts := [], laidByText := true, laidKinds := [.data, .data, .data, .data, .sentinel, .sentinel, .pinned], laidTests := true, laidLooks := .later }
def MovesMatchCardSaid : Prop := Claim7.holds Tryz.pinned (.plain (OpenSpec.ofChange movesMatchSpec)) movesMatchCard

/-- THE SECOND FORM's CARD OF 'outlaw2.StepsMatch'. -/
def stepsMatchUptoCard : Claim7 := { stood := { row := stepsMatchUptoRow, standIns := [], harness := (true, "aeb0add731a4f582accde186f117aaaf8ae8cfd6768189a218248bd806e4ebd6"), looks := true }, kinds := [], alts := [], laidByText := true, laidKinds := [.data, .pinned], laidTests := true, laidLooks := .later }
def StepsMatchUptoCardSaid : Prop := Claim7.holds Tryz.pinned (.plain (OpenSpec.upto stepsMatchSpec)) stepsMatchUptoCard

/-- THE SECOND FORM's CARD OF 'outtop.TopThereAndBack'. -/
def topThereAndBackUptoCard : Claim7 := { stood := { row := topThereAndBackUptoRow, standIns := [], harness := (true, "aeb0add731a4f582accde186f117aaaf8ae8cfd6768189a218248bd806e4ebd6"), looks := true }, kinds := [], alts := [], laidByText := true, laidKinds := [.data, .data, .data, .data, .sentinel, .sentinel, .pinned], laidTests := true, laidLooks := .later }
def TopThereAndBackUptoCardSaid : Prop := Claim7.holds Tryz.pinned (.plain (OpenSpec.upto topThereAndBackSpec)) topThereAndBackUptoCard

/-- THE SECOND FORM's CARD OF 'outlaw2.RunsMatch'. -/
def runsMatchUptoCard : Claim7 := { stood := { row := runsMatchUptoRow, standIns := [], harness := (true, "aeb0add731a4f582accde186f117aaaf8ae8cfd6768189a218248bd806e4ebd6"), looks := true }, kinds := [], alts := [], laidByText := true, laidKinds := [.data, .data, .data, .data, .sentinel, .sentinel, .pinned], laidTests := true, laidLooks := .later }
def RunsMatchUptoCardSaid : Prop := Claim7.holds Tryz.pinned (.plain (OpenSpec.upto runsMatchSpec)) runsMatchUptoCard

/-- THE SECOND FORM's CARD OF 'outlaw2.MovesMatch'. -/
def movesMatchUptoCard : Claim7 := { stood := { row := movesMatchUptoRow, standIns := [], harness := (true, "aeb0add731a4f582accde186f117aaaf8ae8cfd6768189a218248bd806e4ebd6"), looks := true }, kinds := [], alts := [], laidByText := true, laidKinds := [.data, .data, .data, .data, .sentinel, .sentinel, .pinned], laidTests := true, laidLooks := .later }
def MovesMatchUptoCardSaid : Prop := Claim7.holds Tryz.pinned (.plain (OpenSpec.upto movesMatchSpec)) movesMatchUptoCard
end Rows
end Go.Proofs.YtcchfmilleffjaaGreatDoor
