/- The contracts of BuildSteps for the law. No condition but sizes. -/
import Derived.Test.YtmfeabfbhaiaeaaBld2
namespace Go.Proofs.Ytmfeabfbhaiaeaa
open Go.RowKit
set_option linter.unusedVariables false
theorem spec_BuildSteps (W : World) (n : Int) (v : Value) (s : List StepT) (h : IsSteps W v s) (hs : s.length ≤ 1048576) : Calls Try.prog 27 #[.int .i64 n, v] W (RetGB W (bldF n s).1 (bldF n s).2) := by
  obtain ⟨a, cap, rfl, hi⟩ := h
  exact specBld_at W n a _ cap s hi hs
theorem impl_BuildSteps (W : World) (n : Int) (v : Value) (s : List StepT) (h : IsSteps W v s) (hs : s.length ≤ 1048576) : Calls Try.prog 29 #[.int .i64 n, v] W (RetGB W (bldF n s).1 (bldF n s).2) := by
  obtain ⟨a, cap, rfl, hi⟩ := h
  exact implBld_at W n a _ cap s hi hs
end Go.Proofs.Ytmfeabfbhaiaeaa
