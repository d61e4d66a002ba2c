/- The law's helpers on slices of slices of ints. No condition but sizes. -/
import Derived.Test.YtfbmpkdjhhcnpaaGreatSnP02
import Derived.Maps.AppendAt
namespace Go.Proofs.YtfbmpkdjhhcnpaaGreat
open Go.RowKit
set_option maxRecDepth 100000
set_option linter.unusedVariables false
set_option linter.unusedSimpArgs false


end Go.Proofs.YtfbmpkdjhhcnpaaGreat

