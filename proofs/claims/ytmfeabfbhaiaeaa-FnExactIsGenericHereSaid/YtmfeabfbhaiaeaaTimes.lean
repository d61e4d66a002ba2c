/- TimesVector of the program and of the reference. -/
import Derived.Test.YtmfeabfbhaiaeaaMat2
import Derived.Test.YtmfeabfbhaiaeaaApp
namespace Go.Proofs.Ytmfeabfbhaiaeaa
open Go.RowKit
set_option maxRecDepth 100000
set_option linter.unusedVariables false
set_option linter.unusedSimpArgs false

def dotTo (r v : List Int) : Nat → Int
  | 0 => 0
  | j + 1 => wrap64 (dotTo r v j + wrap64 (r[j]?.getD 0 * v[j]?.getD 0))
def dot (v r : List Int) : Int := dotTo r v r.length
def timesV (ll : List (List Int)) (v : List Int) : List Int := if isMat ll = true ∧ v.length = width ll then ll.map (dot v) else []
theorem isMat_len {ll : List (List Int)} (h : isMat ll = true) : 1 ≤ ll.length ∧ ll.length ≤ 9 := by
  simp [isMat, inB] at h; omega
theorem isMat_get {ll : List (List Int)} (h : isMat ll = true) {k : Nat} {r : List Int} (hr : ll[k]? = some r) : r.length = width ll ∧ r.length ≤ 12 ∧ 1 ≤ r.length ∧ smallRow r = true ∧ sq r ≤ 64 := by
  simp only [isMat, Bool.and_eq_true, List.all_eq_true] at h
  have h1 := h.2 r (List.mem_of_getElem? hr)
  simp [rowOk, inB] at h1
  exact ⟨h1.1, by omega, by omega, h1.2.2.1, h1.2.2.2⟩
theorem timesV_len (ll : List (List Int)) (v : List Int) : (timesV ll v).length ≤ ll.length := by unfold timesV; split <;> simp

end Go.Proofs.Ytmfeabfbhaiaeaa
