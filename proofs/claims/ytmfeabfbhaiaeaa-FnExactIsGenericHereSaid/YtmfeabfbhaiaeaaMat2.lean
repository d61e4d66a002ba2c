/- IsMatrix of the reference. -/
import Derived.Test.YtmfeabfbhaiaeaaMat
namespace Go.Proofs.Ytmfeabfbhaiaeaa
open Go.RowKit
set_option maxRecDepth 100000
set_option linter.unusedVariables false
set_option linter.unusedSimpArgs false

theorem isMat_split (ll : List (List Int)) : isMat ll = (decide (0 < ll.length) && (decide (ll.length ≤ 9) && (inB (width ll) 1 12 && (ll.all (fun r => r.length == width ll && smallRow r) && ll.all fun r => decide (sq r ≤ 64))))) := by
  cases ll with
  | nil => simp [isMat, inB]
  | cons r0 l =>
    have hw : width (r0 :: l) = r0.length := rfl
    rw [Bool.eq_iff_iff]
    simp only [isMat, hw, Bool.and_eq_true, List.all_eq_true, rowOk, decide_eq_true_eq]
    constructor
    · rintro ⟨h1, h2⟩
      have h0 := h2 r0 (by simp)
      simp [inB] at h1
      refine ⟨by simp, by simp; omega, h0.2.1, fun r hr => ⟨(h2 r hr).1, (h2 r hr).2.2.1⟩, fun r hr => (h2 r hr).2.2.2⟩
    · rintro ⟨h1, h2, h3, h4, h5⟩
      refine ⟨by simp [inB]; simp at h2; omega, fun r hr => ⟨(h4 r hr).1, ?_, (h4 r hr).2, h5 r hr⟩⟩
      have : r.length = r0.length := by simpa using (h4 r hr).1
      rw [this]
      exact h3

end Go.Proofs.Ytmfeabfbhaiaeaa
