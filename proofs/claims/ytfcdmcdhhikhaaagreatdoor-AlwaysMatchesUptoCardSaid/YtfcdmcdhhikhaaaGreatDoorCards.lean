/-
  DERIVED. GIVEN WITH THE SEED: THE CARDS: each row of YtfcdmcdhhikhaaaGreatDoorRows.lean that lists a variable, with what it lists TIED to the program's text (the seventh form; the later family's looks); each row that meets fmt, with fmt's text TOLD by the authors' own Lean function (tested against real Go, not proved from fmt's source: count such statements apart). THE CARD IS WHAT COUNTS. Prove the row's statement (the work); the ties are given (YtfcdmcdhhikhaaaGreatDoorTie.lean); close each card by the builder's one call (the guide's Derived/Test/ToyasCard.lean, 'card_holds'). Laid BY PROGRAM, IN A SANDBOX (cutbox-door.mjs). By AI agents, Wed Nov 11 2026. No macro, syntax, notation, axiom, sorry.
-/
import Derived.Test.YtfcdmcdhhikhaaaGreatDoorRows
import GoSem.ClaimSeven
namespace Go.Proofs.YtfcdmcdhhikhaaaGreatDoor
namespace Rows

/-- THE TIED CARD OF 'outlaw2.AlwaysMatches'. -/
def alwaysMatchesCard : Claim7 := { stood := { row := alwaysMatchesRow, standIns := [], harness := (true, "8ea69f7483f4263720c5ffebe450f16acbcea671013fb84973414ebaf91943be"), looks := true }, kinds := [], alts := [], laidByText := true, laidKinds := [.data, .data, .data, .data, .sentinel, .sentinel, .pinned], laidTests := true, laidLooks := .later }
def AlwaysMatchesCardSaid : Prop := Claim7.holds Tryz.pinned (.plain (OpenSpec.ofChange alwaysMatchesSpec)) alwaysMatchesCard

/-- THE TIED CARD OF 'outlaw2.CondsMatch'. -/
def condsMatchCard : Claim7 := { stood := { row := condsMatchRow, standIns := [], harness := (true, "8ea69f7483f4263720c5ffebe450f16acbcea671013fb84973414ebaf91943be"), looks := true }, kinds := [], alts := [], laidByText := true, laidKinds := [.data, .data, .data, .data, .sentinel, .sentinel, .pinned], laidTests := true, laidLooks := .later }
def CondsMatchCardSaid : Prop := Claim7.holds Tryz.pinned (.plain (OpenSpec.ofChange condsMatchSpec)) condsMatchCard

/-- THE SECOND FORM's CARD OF 'outlaw2.AlwaysMatches'. -/
def alwaysMatchesUptoCard : Claim7 := { stood := { row := alwaysMatchesUptoRow, standIns := [], harness := (true, "8ea69f7483f4263720c5ffebe450f16acbcea671013fb84973414ebaf91943be"), looks := true }, kinds := [], alts := [], laidByText := true, laidKinds := [.data, .data, .data, .data, .sentinel, .sentinel, .pinned], laidTests := true, laidLooks := .later }
def AlwaysMatchesUptoCardSaid : Prop := Claim7.holds Tryz.pinned (.plain (OpenSpec.upto alwaysMatchesSpec)) alwaysMatchesUptoCard

/-- THE SECOND FORM's CARD OF 'outlaw2.CondsMatch'. -/
def condsMatchUptoCard : Claim7 := { stood := { row := condsMatchUptoRow, standIns := [], harness := (true, "8ea69f7483f4263720c5ffebe450f16acbcea671013fb84973414ebaf91943be"), looks := true }, kinds := [], alts := [], laidByText := true, laidKinds := [.data, .data, .data, .data, .sentinel, .sentinel, .pinned], laidTests := true, laidLooks := .later }
def CondsMatchUptoCardSaid : Prop := Claim7.holds Tryz.pinned (.plain (OpenSpec.upto condsMatchSpec)) condsMatchUptoCard
end Rows
end Go.Proofs.YtfcdmcdhhikhaaaGreatDoor
