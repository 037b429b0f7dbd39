/- The codes of the types of package api. -/
import Derived.Test.YthbjpoiolmlpmaaGreatDoorRd
namespace Go.Proofs.YthbjpoiolmlpmaaGreatDoor
abbrev gI : GT := .int .i64
abbrev gWide : GT := .struct (.cons (.int .i64) (.cons (.int .u64) .nil))
abbrev gTally : GT := .struct (.cons gI (.cons .str (.cons gI (.cons gWide (.cons gWide (.cons (.slice gI) (.cons (.slice .str) .nil)))))))
end Go.Proofs.YthbjpoiolmlpmaaGreatDoor
