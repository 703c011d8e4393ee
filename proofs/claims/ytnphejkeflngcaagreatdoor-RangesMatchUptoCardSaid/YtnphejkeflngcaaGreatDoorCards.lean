/-
  DERIVED. GIVEN WITH THE SEED: THE CARDS: each row of YtnphejkeflngcaaGreatDoorRows.lean that lists a variable, with what it lists TIED to the program's text (the seventh form; the later family's looks); each row that meets fmt, with fmt's text TOLD by the authors' own Lean function (tested against real Go, not proved from fmt's source: count such statements apart). THE CARD IS WHAT COUNTS. Prove the row's statement (the work); the ties are given (YtnphejkeflngcaaGreatDoorTie.lean); close each card by the builder's one call (the guide's Derived/Test/ToyasCard.lean, 'card_holds'). Laid BY PROGRAM, IN A SANDBOX (cutbox-door.mjs). By AI agents, Wed Nov 11 2026. No macro, syntax, notation, axiom, sorry.
-/
import Derived.Test.YtnphejkeflngcaaGreatDoorRows
import GoSem.ClaimSeven
namespace Go.Proofs.YtnphejkeflngcaaGreatDoor
namespace Rows

/-- THE TIED CARD OF 'outlaw2.RangesPrint'. -/
def rangesPrintCard : Claim7 := { stood := { row := rangesPrintRow, standIns := [], harness := (true, "f0f7179bc57af316b7d10bf9dc16dff89fbfd71a4bf974d14053f5142d73ab45"), looks := true }, kinds := [], alts := [], laidByText := true, laidKinds := [.data, .data, .data, .data, .sentinel, .sentinel, .pinned], laidTests := true, laidLooks := .later }
def RangesPrintCardSaid : Prop := Claim7.holds Tryz.pinned (.plain (OpenSpec.ofChange rangesPrintSpec)) rangesPrintCard

/-- THE TIED CARD OF 'outlaw2.CondsRead'. -/
def condsReadCard : Claim7 := { stood := { row := condsReadRow, standIns := [], harness := (true, "f0f7179bc57af316b7d10bf9dc16dff89fbfd71a4bf974d14053f5142d73ab45"), looks := true }, kinds := [], alts := [], laidByText := true, laidKinds := [.data, .data, .data, .data, .sentinel, .sentinel, .pinned], laidTests := true, laidLooks := .later }
def CondsReadCardSaid : Prop := Claim7.holds Tryz.pinned (.plain (OpenSpec.ofChange condsReadSpec)) condsReadCard

/-- THE TIED CARD OF 'outlaw2.RangesMatch'. -/
def rangesMatchCard : Claim7 := { stood := { row := rangesMatchRow, standIns := [], harness := (true, "f0f7179bc57af316b7d10bf9dc16dff89fbfd71a4bf974d14053f5142d73ab45"), looks := true }, kinds := [], alts := [], laidByText := true, laidKinds := [.data, .data, .data, .data, .sentinel, .sentinel, .pinned], laidTests := true, laidLooks := .later }
def RangesMatchCardSaid : Prop := Claim7.holds Tryz.pinned (.plain (OpenSpec.ofChange rangesMatchSpec)) rangesMatchCard

/-- THE TIED CARD OF 'outlaw2.AlwaysMatches'. -/
def alwaysMatchesCard : Claim7 := { stood := { row := alwaysMatchesRow, standIns := [], harness := (true, "f0f7179bc57af316b7d10bf9dc16dff89fbfd71a4bf974d14053f5142d73ab45"), looks := true }, kinds := [], alts := [], laidByText := true, laidKinds := [.data, .data, .data, .data, .sentinel, .sentinel, .pinned], laidTests := true, laidLooks := .later }
def AlwaysMatchesCardSaid : Prop := Claim7.holds Tryz.pinned (.plain (OpenSpec.ofChange alwaysMatchesSpec)) alwaysMatchesCard

/-- THE TIED CARD OF 'outlaw2.CondsMatch'. -/
def condsMatchCard : Claim7 := { stood := { row := condsMatchRow, standIns := [], harness := (true, "f0f7179bc57af316b7d10bf9dc16dff89fbfd71a4bf974d14053f5142d73ab45"), looks := true }, kinds := [], alts := [], laidByText := true, laidKinds := [.data, .data, .data, .data, .sentinel, .sentinel, .pinned], laidTests := true, laidLooks := .later }
def CondsMatchCardSaid : Prop := Claim7.holds Tryz.pinned (.plain (OpenSpec.ofChange condsMatchSpec)) condsMatchCard

/-- THE SECOND FORM's CARD OF 'outlaw2.RangesPrint'. -/
def rangesPrintUptoCard : Claim7 := { stood := { row := rangesPrintUptoRow, standIns := [], harness := (true, "f0f7179bc57af316b7d10bf9dc16dff89fbfd71a4bf974d14053f5142d73ab45"), looks := true }, kinds := [], alts := [], laidByText := true, laidKinds := [.data, .data, .data, .data, .sentinel, .sentinel, .pinned], laidTests := true, laidLooks := .later }
def RangesPrintUptoCardSaid : Prop := Claim7.holds Tryz.pinned (.plain (OpenSpec.upto rangesPrintSpec)) rangesPrintUptoCard

/-- THE SECOND FORM's CARD OF 'outlaw2.CondsRead'. -/
def condsReadUptoCard : Claim7 := { stood := { row := condsReadUptoRow, standIns := [], harness := (true, "f0f7179bc57af316b7d10bf9dc16dff89fbfd71a4bf974d14053f5142d73ab45"), looks := true }, kinds := [], alts := [], laidByText := true, laidKinds := [.data, .data, .data, .data, .sentinel, .sentinel, .pinned], laidTests := true, laidLooks := .later }
def CondsReadUptoCardSaid : Prop := Claim7.holds Tryz.pinned (.plain (OpenSpec.upto condsReadSpec)) condsReadUptoCard

/-- THE SECOND FORM's CARD OF 'outlaw2.RangesMatch'. -/
def rangesMatchUptoCard : Claim7 := { stood := { row := rangesMatchUptoRow, standIns := [], harness := (true, "f0f7179bc57af316b7d10bf9dc16dff89fbfd71a4bf974d14053f5142d73ab45"), looks := true }, kinds := [], alts := [], laidByText := true, laidKinds := [.data, .data, .data, .data, .sentinel, .sentinel, .pinned], laidTests := true, laidLooks := .later }
def RangesMatchUptoCardSaid : Prop := Claim7.holds Tryz.pinned (.plain (OpenSpec.upto rangesMatchSpec)) rangesMatchUptoCard

/-- THE SECOND FORM's CARD OF 'outlaw2.AlwaysMatches'. -/
def alwaysMatchesUptoCard : Claim7 := { stood := { row := alwaysMatchesUptoRow, standIns := [], harness := (true, "f0f7179bc57af316b7d10bf9dc16dff89fbfd71a4bf974d14053f5142d73ab45"), looks := true }, kinds := [], alts := [], laidByText := true, laidKinds := [.data, .data, .data, .data, .sentinel, .sentinel, .pinned], laidTests := true, laidLooks := .later }
def AlwaysMatchesUptoCardSaid : Prop := Claim7.holds Tryz.pinned (.plain (OpenSpec.upto alwaysMatchesSpec)) alwaysMatchesUptoCard

/-- THE SECOND FORM's CARD OF 'outlaw2.CondsMatch'. -/
def condsMatchUptoCard : Claim7 := { stood := { row := condsMatchUptoRow, standIns := [], harness := (true, "f0f7179bc57af316b7d10bf9dc16dff89fbfd71a4bf974d14053f5142d73ab45"), looks := true }, kinds := [], alts := [], laidByText := true, laidKinds := [.data, .data, .data, .data, .sentinel, .sentinel, .pinned], laidTests := true, laidLooks := .later }
def CondsMatchUptoCardSaid : Prop := Claim7.holds Tryz.pinned (.plain (OpenSpec.upto condsMatchSpec)) condsMatchUptoCard
end Rows
end Go.Proofs.YtnphejkeflngcaaGreatDoor
