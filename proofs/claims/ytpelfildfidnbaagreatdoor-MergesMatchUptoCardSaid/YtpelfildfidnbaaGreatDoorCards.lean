/-
  DERIVED. GIVEN WITH THE SEED: THE CARDS: each row of YtpelfildfidnbaaGreatDoorRows.lean that lists a variable, with what it lists TIED to the program's text (the seventh form; the later family's looks); each row that meets fmt, with fmt's text TOLD by the authors' own Lean function (tested against real Go, not proved from fmt's source: count such statements apart). THE CARD IS WHAT COUNTS. Prove the row's statement (the work); the ties are given (YtpelfildfidnbaaGreatDoorTie.lean); close each card by the builder's one call (the guide's Derived/Test/ToyasCard.lean, 'card_holds'). Laid BY PROGRAM, IN A SANDBOX (cutbox-door.mjs). By AI agents, Wed Nov 11 2026. No macro, syntax, notation, axiom, sorry.
-/
import Derived.Test.YtpelfildfidnbaaGreatDoorRows
import GoSem.ClaimSeven
namespace Go.Proofs.YtpelfildfidnbaaGreatDoor
namespace Rows

/-- THE TIED CARD OF 'outlaw2.StepsMatch'. -/
def stepsMatchCard : Claim7 := { stood := { row := stepsMatchRow, standIns := [], harness := (true, "289f1c870db7b50a7dcba479e2c6d05e1d6160ecf7f7401540889cfbee53434b"), looks := true }, kinds := [], alts := [], laidByText := true, laidKinds := [.data, .pinned], laidTests := true, laidLooks := .later }
def StepsMatchCardSaid : Prop := Claim7.holds Tryz.pinned (.plain (OpenSpec.ofChange stepsMatchSpec)) stepsMatchCard

/-- THE TIED CARD OF 'outlaw2.MergesMatch'. -/
def mergesMatchCard : Claim7 := { stood := { row := mergesMatchRow, standIns := [], harness := (true, "289f1c870db7b50a7dcba479e2c6d05e1d6160ecf7f7401540889cfbee53434b"), looks := true }, kinds := [], alts := [], laidByText := true, laidKinds := [.data, .data, .data, .data, .sentinel, .sentinel, .pinned], laidTests := true, laidLooks := .later }
def MergesMatchCardSaid : Prop := Claim7.holds Tryz.pinned (.plain (OpenSpec.ofChange mergesMatchSpec)) mergesMatchCard

/-- THE TIED CARD OF 'outlaw2.MovesMatch'. -/
def movesMatchCard : Claim7 := { stood := { row := movesMatchRow, standIns := [], harness := (true, "289f1c870db7b50a7dcba479e2c6d05e1d6160ecf7f7401540889cfbee53434b"), looks := true }, kinds := [], alts := [], laidByText := true, laidKinds := [.data, .data, .data, .data, .sentinel, .sentinel, .pinned], laidTests := true, laidLooks := .later }
def MovesMatchCardSaid : Prop := Claim7.holds Tryz.pinned (.plain (OpenSpec.ofChange movesMatchSpec)) movesMatchCard

/-- THE SECOND FORM's CARD OF 'outlaw2.StepsMatch'. -/
def stepsMatchUptoCard : Claim7 := { stood := { row := stepsMatchUptoRow, standIns := [], harness := (true, "289f1c870db7b50a7dcba479e2c6d05e1d6160ecf7f7401540889cfbee53434b"), looks := true }, kinds := [], alts := [], laidByText := true, laidKinds := [.data, .pinned], laidTests := true, laidLooks := .later }
def StepsMatchUptoCardSaid : Prop := Claim7.holds Tryz.pinned (.plain (OpenSpec.upto stepsMatchSpec)) stepsMatchUptoCard

/-- THE SECOND FORM's CARD OF 'outlaw2.MergesMatch'. -/
def mergesMatchUptoCard : Claim7 := { stood := { row := mergesMatchUptoRow, standIns := [], harness := (true, "289f1c870db7b50a7dcba479e2c6d05e1d6160ecf7f7401540889cfbee53434b"), looks := true }, kinds := [], alts := [], laidByText := true, laidKinds := [.data, .data, .data, .data, .sentinel, .sentinel, .pinned], laidTests := true, laidLooks := .later }
def MergesMatchUptoCardSaid : Prop := Claim7.holds Tryz.pinned (.plain (OpenSpec.upto mergesMatchSpec)) mergesMatchUptoCard

/-- THE SECOND FORM's CARD OF 'outlaw2.MovesMatch'. -/
def movesMatchUptoCard : Claim7 := { stood := { row := movesMatchUptoRow, standIns := [], harness := (true, "289f1c870db7b50a7dcba479e2c6d05e1d6160ecf7f7401540889cfbee53434b"), looks := true }, kinds := [], alts := [], laidByText := true, laidKinds := [.data, .data, .data, .data, .sentinel, .sentinel, .pinned], laidTests := true, laidLooks := .later }
def MovesMatchUptoCardSaid : Prop := Claim7.holds Tryz.pinned (.plain (OpenSpec.upto movesMatchSpec)) movesMatchUptoCard
end Rows
end Go.Proofs.YtpelfildfidnbaaGreatDoor
