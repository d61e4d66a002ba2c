/- The null space that the reference's elimination tells: the walk. Condition: a matrix whose minors are small (Fit). -/
import Derived.Test.YtkjoeogoebpkjaaNulS
import Derived.BigRegion
namespace Go.Proofs.Ytkjoeogoebpkjaa
open Go.RowKit Gr
set_option maxRecDepth 100000
set_option linter.unusedVariables false
set_option linter.unusedSimpArgs false

end Go.Proofs.Ytkjoeogoebpkjaa
