/- Versions as values. -/
import Derived.Test.YtepdjimbnbiicaaGreatDoorL1
import Derived.Test.YtepdjimbnbiicaaGreatDoorV2
set_option linter.unusedVariables false
namespace Go.Proofs.YtepdjimbnbiicaaGreatDoor
open Go Go.RowKit
def verV (v : Ver) : V := .agg [.d (.int .i64 v.a), .d (.int .i64 v.b), .d (.int .i64 v.c), .d (.str v.e)]
def verD (v : Ver) : List D := [.int .i64 v.a, .int .i64 v.b, .int .i64 v.c, .str v.e]
end Go.Proofs.YtepdjimbnbiicaaGreatDoor
