/- The law FnExactGcdOf returns true: the walk. No condition. -/
import Derived.Test.YtioojfiolepjkaaGcd
import Derived.Test.YtioojfiolepjkaaRdInt
namespace Go.Proofs.Ytioojfiolepjkaa
open Go.RowKit
set_option linter.unusedVariables false
set_option linter.unusedSimpArgs false

set_option maxHeartbeats 400000 in
theorem walkFnExactGcdOf (W : World) (v0 : Value) (x0 : Int) (r0 : IsInt W v0 x0) (ok0 : OkInt x0) (v1 : Value) (x1 : Int) (r1 : IsInt W v1 x1) (ok1 : OkInt x1) :
    Calls Try.prog 4 #[v0, v1] W fun e w' => e = .returned (.bool true) ∧ Below W.heap.size W w' := by
  obtain rfl := r0
  obtain rfl := r1
  go_enter Try.func4, Try.ntmps4
  go_wp2_with (first
    | (go_at_call 12; refine (specGcd_any _ _ _).mono ?_; rintro e w' ⟨rfl, rfl⟩)
    | (go_at_call 13; refine (implGcd_any _ _ _).mono ?_; rintro e w' ⟨rfl, n, rfl⟩))
  go_ret
  exact ⟨rfl, below_drewN (Below.refl _ _) _⟩
end Go.Proofs.Ytioojfiolepjkaa
