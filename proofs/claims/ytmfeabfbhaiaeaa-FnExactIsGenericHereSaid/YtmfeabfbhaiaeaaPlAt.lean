/- The place of a joint. No condition. -/
import Derived.Test.YtmfeabfbhaiaeaaFw
namespace Go.Proofs.Ytmfeabfbhaiaeaa
open Go.RowKit
set_option maxRecDepth 100000
set_option linter.unusedVariables false

def plAt (q : List PlaceT) (i : Nat) : PlaceT := q[i]?.getD (0, 0)
end Go.Proofs.Ytmfeabfbhaiaeaa
