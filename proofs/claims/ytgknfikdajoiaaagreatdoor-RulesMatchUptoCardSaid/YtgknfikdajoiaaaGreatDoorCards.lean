/-
  DERIVED. GIVEN WITH THE SEED: THE CARDS: each row of YtgknfikdajoiaaaGreatDoorRows.lean that lists a variable, with what it lists TIED to the program's text (the seventh form; the later family's looks); each row that meets fmt, with fmt's text TOLD by the authors' own Lean function (tested against real Go, not proved from fmt's source: count such statements apart). THE CARD IS WHAT COUNTS. Prove the row's statement (the work); the ties are given (YtgknfikdajoiaaaGreatDoorTie.lean); close each card by the builder's one call (the guide's Derived/Test/ToyasCard.lean, 'card_holds'). Laid BY PROGRAM, IN A SANDBOX (cutbox-door.mjs). By AI agents, Wed Nov 11 2026. No macro, syntax, notation, axiom, sorry.
-/
import Derived.Test.YtgknfikdajoiaaaGreatDoorRows
import GoSem.ClaimSeven
namespace Go.Proofs.YtgknfikdajoiaaaGreatDoor
namespace Rows

/-- THE TIED CARD OF 'outlaw2.RulesMatch'. -/
def rulesMatchCard : Claim7 := { stood := { row := rulesMatchRow, standIns := [], harness := (true, "c88397bd0b94e04bfc00c4550f5ded20c251d0b15f84c13f436b1e27140997cb"), looks := true }, kinds := [], alts := [], laidByText := true, laidKinds := [.data, .pinned], laidTests := true, laidLooks := .later }
def RulesMatchCardSaid : Prop := Claim7.holds Tryz.pinned (.plain (OpenSpec.ofChange rulesMatchSpec)) rulesMatchCard

/-- THE TIED CARD OF 'outlaw2.CondsMatch'. -/
def condsMatchCard : Claim7 := { stood := { row := condsMatchRow, standIns := [], harness := (true, "c88397bd0b94e04bfc00c4550f5ded20c251d0b15f84c13f436b1e27140997cb"), looks := true }, kinds := [], alts := [], laidByText := true, laidKinds := [.data, .data, .data, .data, .sentinel, .sentinel, .pinned], laidTests := true, laidLooks := .later }
def CondsMatchCardSaid : Prop := Claim7.holds Tryz.pinned (.plain (OpenSpec.ofChange condsMatchSpec)) condsMatchCard

/-- THE SECOND FORM's CARD OF 'outlaw2.RulesMatch'. -/
def rulesMatchUptoCard : Claim7 := { stood := { row := rulesMatchUptoRow, standIns := [], harness := (true, "c88397bd0b94e04bfc00c4550f5ded20c251d0b15f84c13f436b1e27140997cb"), looks := true }, kinds := [], alts := [], laidByText := true, laidKinds := [.data, .pinned], laidTests := true, laidLooks := .later }
def RulesMatchUptoCardSaid : Prop := Claim7.holds Tryz.pinned (.plain (OpenSpec.upto rulesMatchSpec)) rulesMatchUptoCard

/-- THE SECOND FORM's CARD OF 'outlaw2.CondsMatch'. -/
def condsMatchUptoCard : Claim7 := { stood := { row := condsMatchUptoRow, standIns := [], harness := (true, "c88397bd0b94e04bfc00c4550f5ded20c251d0b15f84c13f436b1e27140997cb"), looks := true }, kinds := [], alts := [], laidByText := true, laidKinds := [.data, .data, .data, .data, .sentinel, .sentinel, .pinned], laidTests := true, laidLooks := .later }
def CondsMatchUptoCardSaid : Prop := Claim7.holds Tryz.pinned (.plain (OpenSpec.upto condsMatchSpec)) condsMatchUptoCard
end Rows
end Go.Proofs.YtgknfikdajoiaaaGreatDoor
