/- The size of the graph behind a step. No condition. -/
import Derived.Test.YtmfeabfbhaiaeaaSta
namespace Go.Proofs.Ytmfeabfbhaiaeaa
open Go.RowKit
set_option linter.unusedVariables false
theorem stepF_sz (g : GraphT) (s : StepT) (h : szGraph g ≤ 1048576) : szGraph (stepF g s).1 ≤ 1048576 := by
  have h1 := stepF_len g s
  by_cases hl : g.2.length ≤ 21
  · show (stepF g s).1.2.length ≤ _
    omega
  · have e : stepF g s = (g, false) := by unfold stepF; rw [decide_eq_false hl, Bool.and_false]; rfl
    rw [e]; exact h
theorem BoxSt.c0 {w : World} {g : Nat} {kd pt a b c : Int} (h : BoxSt w g kd pt a b c) : w.cell? ⟨g, 0, none⟩ = some (.int .i64 kd) := h.2.1
theorem BoxSt.c1 {w : World} {g : Nat} {kd pt a b c : Int} (h : BoxSt w g kd pt a b c) : w.cell? ⟨g, 1, none⟩ = some (.int .i64 pt) := h.2.2.1
theorem BoxSt.c2 {w : World} {g : Nat} {kd pt a b c : Int} (h : BoxSt w g kd pt a b c) : w.cell? ⟨g, 2, none⟩ = some (.int .i64 a) := h.2.2.2.1
theorem BoxSt.c3 {w : World} {g : Nat} {kd pt a b c : Int} (h : BoxSt w g kd pt a b c) : w.cell? ⟨g, 3, none⟩ = some (.int .i64 b) := h.2.2.2.2.1
theorem BoxSt.c4 {w : World} {g : Nat} {kd pt a b c : Int} (h : BoxSt w g kd pt a b c) : w.cell? ⟨g, 4, none⟩ = some (.int .i64 c) := h.2.2.2.2.2
end Go.Proofs.Ytmfeabfbhaiaeaa
