/- Places on the grid. -/
import Derived.Test.YtfdhbbhfilkafaaBase
namespace Go.Proofs.Ytfdhbbhfilkafaa
open Go.RowKit
set_option maxRecDepth 100000
set_option linter.unusedVariables false
set_option linter.unusedSimpArgs false

def onB (x y : Int) : Bool := inB x 0 4 && inB y 0 4
theorem onB_bd {x y : Int} (h : onB x y = true) : 0 ≤ x ∧ x ≤ 4 ∧ 0 ≤ y ∧ y ≤ 4 := by
  simp [onB, inB] at h; omega

set_option maxHeartbeats 400000 in
theorem isPlace_any (x y : Int) (w : World) :
    Calls Try.prog 97 #[.agg #[.int .i64 x, .int .i64 y]] w fun e w' => e = .returned (.bool (onB x y)) ∧ Below w.heap.size w w' := by
  cases h1 : inB x 0 4 <;> cases h2 : inB y 0 4
  all_goals
    go_enter Try.func97, Try.ntmps97
    go_wp2_with (first | (go_at_call 77; refine (within_any _ _ _ _).mono ?_; rintro e w' ⟨rfl, rfl⟩))
    go_ret
    exact ⟨by simp [onB, h1, h2], (Below.refl _ _).alloc (Nat.le_refl _) _⟩

end Go.Proofs.Ytfdhbbhfilkafaa
