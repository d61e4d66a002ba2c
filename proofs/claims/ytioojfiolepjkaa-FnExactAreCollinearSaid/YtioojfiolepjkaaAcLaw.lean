/- The law FnExactAreCollinear returns true: the walk. No condition. -/
import Derived.Test.YtioojfiolepjkaaAc
import Derived.Test.YtioojfiolepjkaaRdPlace
namespace Go.Proofs.Ytioojfiolepjkaa
open Go.RowKit
set_option linter.unusedVariables false
set_option linter.unusedSimpArgs false

set_option maxHeartbeats 4000000 in
theorem lawCol (ax ay bx dy cx cy : Int) (w : World) :
    Calls Try.prog 3 #[.agg #[.int .i64 ax, .int .i64 ay], .agg #[.int .i64 bx, .int .i64 dy], .agg #[.int .i64 cx, .int .i64 cy]] w fun e w' => e = .returned (.bool true) ∧ Below w.heap.size w w' := by
  have hwd := @Wd.cells
  go_enter Try.func3, Try.ntmps3
  go_upto_region 1 with fail
  refine wp_region_wd (by kernel_rfl) (by kernel_rfl) ?_
  repeat (go_big_quiet_step ((first
   | (go_at_call 10; exact Calls.wd_of (toPlace_any _ _ _))
   | (go_at_call 9; exact Calls.wd_of (specCol_any _ _ _ _ _ _ _)))))
  refine wpQuiet_nil ?_
  intro n1
  go_upto_region 2 with fail
  refine wp_region_wd' (by kernel_rfl) (by kernel_rfl) ?_
  repeat (go_big_quiet_step ((first
   | (go_at_call 10; exact Calls.wd_of (toPlace_any _ _ _))
   | (go_at_call 11; exact Calls.wd_of (implCol_any _ _ _ _ _ _ _)))))
  refine wpQuiet_nil ?_
  intro n2
  go_wp2
  go_ret
  exact ⟨rfl, below3 n2.h⟩

theorem walkFnExactAreCollinear (W : World) (v0 : Value) (x0 : Int × Int) (r0 : IsPlace W v0 x0) (ok0 : OkPlace x0) (v1 : Value) (x1 : Int × Int) (r1 : IsPlace W v1 x1) (ok1 : OkPlace x1) (v2 : Value) (x2 : Int × Int) (r2 : IsPlace W v2 x2) (ok2 : OkPlace x2) :
    Calls Try.prog 3 #[v0, v1, v2] W fun e w' => e = .returned (.bool true) ∧ Below W.heap.size W w' := by
  obtain rfl := r0
  obtain rfl := r1
  obtain rfl := r2
  exact lawCol _ _ _ _ _ _ W
end Go.Proofs.Ytioojfiolepjkaa
