/-
  DERIVED. GIVEN WITH THE SEED: THE CARDS: each row of YtlkhdembbogcaaaGreatDoorRows.lean that lists a variable, with what it lists TIED to the program's text (the seventh form; the later family's looks); each row that meets fmt, with fmt's text TOLD by the authors' own Lean function (tested against real Go, not proved from fmt's source: count such statements apart). THE CARD IS WHAT COUNTS. Prove the row's statement (the work); the ties are given (YtlkhdembbogcaaaGreatDoorTie.lean); close each card by the builder's one call (the guide's Derived/Test/ToyasCard.lean, 'card_holds'). Laid BY PROGRAM, IN A SANDBOX (cutbox-door.mjs). By AI agents, Wed Nov 11 2026. No macro, syntax, notation, axiom, sorry.
-/
import Derived.Test.YtlkhdembbogcaaaGreatDoorRows
import GoSem.ClaimSeven
namespace Go.Proofs.YtlkhdembbogcaaaGreatDoor
namespace Rows

/-- THE TIED CARD OF 'outlaw2.MergesMatch'. -/
def mergesMatchCard : Claim7 := { stood := { row := mergesMatchRow, standIns := [], harness := (true, "77b4405df4be8e129ee077abec4e9f15de669c88d91fd88f54c8fd60a2b2f621"), looks := true }, kinds := [], alts := [], laidByText := true, laidKinds := [.data, .data, .data, .data, .sentinel, .sentinel, .pinned], laidTests := true, laidLooks := .later }
def MergesMatchCardSaid : Prop := Claim7.holds Tryz.pinned (.plain (OpenSpec.ofChange mergesMatchSpec)) mergesMatchCard

/-- THE TIED CARD OF 'outlaw2.SharesMatch'. -/
def sharesMatchCard : Claim7 := { stood := { row := sharesMatchRow, standIns := [], harness := (true, "77b4405df4be8e129ee077abec4e9f15de669c88d91fd88f54c8fd60a2b2f621"), looks := true }, kinds := [], alts := [], laidByText := true, laidKinds := [.data, .data, .data, .data, .sentinel, .sentinel, .pinned], laidTests := true, laidLooks := .later }
def SharesMatchCardSaid : Prop := Claim7.holds Tryz.pinned (.plain (OpenSpec.ofChange sharesMatchSpec)) sharesMatchCard

/-- THE TIED CARD OF 'outlaw2.OffersMatch'. -/
def offersMatchCard : Claim7 := { stood := { row := offersMatchRow, standIns := [], harness := (true, "77b4405df4be8e129ee077abec4e9f15de669c88d91fd88f54c8fd60a2b2f621"), looks := true }, kinds := [], alts := [], laidByText := true, laidKinds := [.data, .data, .data, .data, .sentinel, .sentinel, .pinned], laidTests := true, laidLooks := .later }
def OffersMatchCardSaid : Prop := Claim7.holds Tryz.pinned (.plain (OpenSpec.ofChange offersMatchSpec)) offersMatchCard

/-- THE SECOND FORM's CARD OF 'outlaw2.MergesMatch'. -/
def mergesMatchUptoCard : Claim7 := { stood := { row := mergesMatchUptoRow, standIns := [], harness := (true, "77b4405df4be8e129ee077abec4e9f15de669c88d91fd88f54c8fd60a2b2f621"), looks := true }, kinds := [], alts := [], laidByText := true, laidKinds := [.data, .data, .data, .data, .sentinel, .sentinel, .pinned], laidTests := true, laidLooks := .later }
def MergesMatchUptoCardSaid : Prop := Claim7.holds Tryz.pinned (.plain (OpenSpec.upto mergesMatchSpec)) mergesMatchUptoCard

/-- THE SECOND FORM's CARD OF 'outlaw2.SharesMatch'. -/
def sharesMatchUptoCard : Claim7 := { stood := { row := sharesMatchUptoRow, standIns := [], harness := (true, "77b4405df4be8e129ee077abec4e9f15de669c88d91fd88f54c8fd60a2b2f621"), looks := true }, kinds := [], alts := [], laidByText := true, laidKinds := [.data, .data, .data, .data, .sentinel, .sentinel, .pinned], laidTests := true, laidLooks := .later }
def SharesMatchUptoCardSaid : Prop := Claim7.holds Tryz.pinned (.plain (OpenSpec.upto sharesMatchSpec)) sharesMatchUptoCard

/-- THE SECOND FORM's CARD OF 'outlaw2.OffersMatch'. -/
def offersMatchUptoCard : Claim7 := { stood := { row := offersMatchUptoRow, standIns := [], harness := (true, "77b4405df4be8e129ee077abec4e9f15de669c88d91fd88f54c8fd60a2b2f621"), looks := true }, kinds := [], alts := [], laidByText := true, laidKinds := [.data, .data, .data, .data, .sentinel, .sentinel, .pinned], laidTests := true, laidLooks := .later }
def OffersMatchUptoCardSaid : Prop := Claim7.holds Tryz.pinned (.plain (OpenSpec.upto offersMatchSpec)) offersMatchUptoCard
end Rows
end Go.Proofs.YtlkhdembbogcaaaGreatDoor
