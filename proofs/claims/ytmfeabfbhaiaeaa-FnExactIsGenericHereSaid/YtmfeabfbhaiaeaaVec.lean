/- Velocities: l12Vector of the reference, isVelocity and areSmall of the program. -/
import Derived.Test.YtmfeabfbhaiaeaaIsf2
import Derived.Test.YtmfeabfbhaiaeaaBox
import Derived.Test.YtmfeabfbhaiaeaaElem
namespace Go.Proofs.Ytmfeabfbhaiaeaa
open Go.RowKit
set_option maxRecDepth 100000
set_option linter.unusedVariables false
set_option linter.unusedSimpArgs false

def smallV (x : Int) : Bool := inB x (-10000000000) 10000000000
def velB (f : FwT) (v : List Int) : Bool := v.all smallV && (isFwB f && decide ((v.length : Int) = 2 * f.1))
theorem velB_small {f : FwT} {v : List Int} {k : Nat} {x : Int} (hx : v[k]? = some x) (h : smallV x = false) : velB f v = false := by
  have : v.all smallV = false := List.all_eq_false.2 ⟨_, List.mem_of_getElem? hx, by simp [h]⟩
  simp only [velB, this, Bool.false_and]

end Go.Proofs.Ytmfeabfbhaiaeaa
