/- Places on the grid. -/
import Derived.Test.YtfdhbbhfilkafaaGreatBase
namespace Go.Proofs.YtfdhbbhfilkafaaGreat
open Go.RowKit
set_option maxRecDepth 100000
set_option linter.unusedVariables false
set_option linter.unusedSimpArgs false

def onB (x y : Int) : Bool := inB x 0 4 && inB y 0 4
theorem onB_bd {x y : Int} (h : onB x y = true) : 0 ≤ x ∧ x ≤ 4 ∧ 0 ≤ y ∧ y ≤ 4 := by
  simp [onB, inB] at h; omega

end Go.Proofs.YtfdhbbhfilkafaaGreat
