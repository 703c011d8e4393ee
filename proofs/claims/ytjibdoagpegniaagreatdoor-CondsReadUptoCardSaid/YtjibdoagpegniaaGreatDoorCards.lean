/-
  DERIVED. GIVEN WITH THE SEED: THE CARDS: each row of YtjibdoagpegniaaGreatDoorRows.lean that lists a variable, with what it lists TIED to the program's text (the seventh form; the later family's looks); each row that meets fmt, with fmt's text TOLD by the authors' own Lean function (tested against real Go, not proved from fmt's source: count such statements apart). THE CARD IS WHAT COUNTS. Prove the row's statement (the work); the ties are given (YtjibdoagpegniaaGreatDoorTie.lean); close each card by the builder's one call (the guide's Derived/Test/ToyasCard.lean, 'card_holds'). Laid BY PROGRAM, IN A SANDBOX (cutbox-door.mjs). By AI agents, Wed Nov 11 2026. No macro, syntax, notation, axiom, sorry.
-/
import Derived.Test.YtjibdoagpegniaaGreatDoorRows
import GoSem.ClaimSeven
namespace Go.Proofs.YtjibdoagpegniaaGreatDoor
namespace Rows

/-- THE TIED CARD OF 'outlaw2.CondsRead'. -/
def condsReadCard : Claim7 := { stood := { row := condsReadRow, standIns := [], harness := (true, "55967ac0fd413b18c8faf90acf30e17a62134cf0d60fd121e939f76fc84b4090"), looks := true }, kinds := [], alts := [], laidByText := true, laidKinds := [.data, .data, .data, .data, .sentinel, .sentinel, .pinned], laidTests := true, laidLooks := .later }
def CondsReadCardSaid : Prop := Claim7.holds Tryz.pinned (.plain (OpenSpec.ofChange condsReadSpec)) condsReadCard

/-- THE TIED CARD OF 'outlaw2.AlwaysMatches'. -/
def alwaysMatchesCard : Claim7 := { stood := { row := alwaysMatchesRow, standIns := [], harness := (true, "55967ac0fd413b18c8faf90acf30e17a62134cf0d60fd121e939f76fc84b4090"), looks := true }, kinds := [], alts := [], laidByText := true, laidKinds := [.data, .data, .data, .data, .sentinel, .sentinel, .pinned], laidTests := true, laidLooks := .later }
def AlwaysMatchesCardSaid : Prop := Claim7.holds Tryz.pinned (.plain (OpenSpec.ofChange alwaysMatchesSpec)) alwaysMatchesCard

/-- THE SECOND FORM's CARD OF 'outlaw2.CondsRead'. -/
def condsReadUptoCard : Claim7 := { stood := { row := condsReadUptoRow, standIns := [], harness := (true, "55967ac0fd413b18c8faf90acf30e17a62134cf0d60fd121e939f76fc84b4090"), looks := true }, kinds := [], alts := [], laidByText := true, laidKinds := [.data, .data, .data, .data, .sentinel, .sentinel, .pinned], laidTests := true, laidLooks := .later }
def CondsReadUptoCardSaid : Prop := Claim7.holds Tryz.pinned (.plain (OpenSpec.upto condsReadSpec)) condsReadUptoCard

/-- THE SECOND FORM's CARD OF 'outlaw2.AlwaysMatches'. -/
def alwaysMatchesUptoCard : Claim7 := { stood := { row := alwaysMatchesUptoRow, standIns := [], harness := (true, "55967ac0fd413b18c8faf90acf30e17a62134cf0d60fd121e939f76fc84b4090"), looks := true }, kinds := [], alts := [], laidByText := true, laidKinds := [.data, .data, .data, .data, .sentinel, .sentinel, .pinned], laidTests := true, laidLooks := .later }
def AlwaysMatchesUptoCardSaid : Prop := Claim7.holds Tryz.pinned (.plain (OpenSpec.upto alwaysMatchesSpec)) alwaysMatchesUptoCard
end Rows
end Go.Proofs.YtjibdoagpegniaaGreatDoor
