/- Sets of bars: l5Set of the reference. No condition but sizes. -/
import Derived.Test.YtnjecekaenddiaaGrB
namespace Go.Proofs.Ytnjecekaenddiaa
open Go.RowKit
set_option maxRecDepth 100000
set_option linter.unusedVariables false
set_option linter.unusedSimpArgs false

end Go.Proofs.Ytnjecekaenddiaa
