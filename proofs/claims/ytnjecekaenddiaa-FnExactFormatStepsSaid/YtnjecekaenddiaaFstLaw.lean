/- The law FnExactFormatSteps returns true: the walk, written by lawwalk2.py. No condition. -/
import Derived.Test.YtnjecekaenddiaaFmt
import Derived.Test.YtnjecekaenddiaaRdSteps
import Derived.Deep.RegionHeld3
namespace Go.Proofs.Ytnjecekaenddiaa
open Go.RowKit
set_option maxRecDepth 100000
set_option linter.unusedVariables false
set_option linter.unusedSimpArgs false

set_option maxHeartbeats 8000000 in
theorem walkFnExactFormatSteps (W : World) (v0 : Value) (x0 : List StepT) (r0 : IsSteps W v0 x0) (ok0 : OkSteps x0) :
    Calls Try.prog 3 #[v0] W fun e w' => e = .returned (.bool true) ∧ Below W.heap.size W w' := by
  have R0 := Lib.hid r0
  clear r0
  have BB : Below W.heap.size W W := Below.refl _ _
  by_cases hbig0 : 1048576 < x0.length
  · go_enter Try.func3, Try.ntmps3
    have B := BB
    go_wp2_with fail
    refine (szSteps_h _ _ x0 (1048576) (R0.out.below B) ok0 (by omega) (by omega)).mono ?_
    rintro e w1 ⟨rfl, b⟩
    have hzw1 := b.size
    replace B := B.step b
    clear b
    rw [szRes_pos (by omega)]
    go_wp2_with fail
    go_ret
    exact ⟨rfl, B⟩
  have hsm0 : x0.length ≤ 1048576 := by omega
  go_enter Try.func3, Try.ntmps3
  have B := BB
  go_wp2_with fail
  refine (szSteps_h _ _ x0 (1048576) (R0.out.below B) ok0 (by omega) (by omega)).mono ?_
  rintro e w1 ⟨rfl, b⟩
  have hzw1 := b.size
  replace B := B.step b
  clear b
  rw [szRes_neg (by omega)]
  go_wp2_with fail
  refine (toSteps_h _ _ x0 (R0.out.below B) hsm0).mono ?_
  rintro e w2 ⟨ya0, rfl, o0, b⟩
  have hzw2 := b.size
  replace B := B.step b
  clear b
  have oa0 := o0.h
  clear o0
  go_wp2_with fail
  refine (spec_FormatSteps _ _ x0 oa0.is hsm0 ok0).mono ?_
  rintro e w3 ⟨rfl, b⟩
  have hzw3 := b.size
  replace B := B.step b
  replace oa0 := oa0.below b
  clear b
  clear oa0
  go_wp2_with fail
  refine (toSteps_h _ _ x0 (R0.out.below B) hsm0).mono ?_
  rintro e w4 ⟨yx0, rfl, o0, b⟩
  have hzw4 := b.size
  replace B := B.step b
  clear b
  have ox0 := o0.h
  clear o0
  go_wp2_with fail
  refine (impl_FormatSteps _ _ x0 ox0.is hsm0 ok0).mono ?_
  rintro e w5 ⟨rfl, b⟩
  have hzw5 := b.size
  replace B := B.step b
  replace ox0 := ox0.below b
  clear b
  go_wp2_with fail
  refine (toSteps_h _ _ x0 (R0.out.below B) hsm0).mono ?_
  rintro e w6 ⟨yz0, rfl, o0, b⟩
  have hzw6 := b.size
  replace B := B.step b
  replace ox0 := ox0.below b
  clear b
  have oz0 := o0.h
  clear o0
  go_wp2_with fail
  refine (eqSteps_h _ _ _ _ ox0.is oz0.is (by omega)).mono ?_
  rintro e w7 ⟨rfl, b⟩
  have hzw7 := b.size
  replace B := B.step b
  replace ox0 := ox0.below b
  replace oz0 := oz0.below b
  clear b
  clear oz0
  go_wp2_with fail
  go_ret
  exact ⟨rfl, B⟩
end Go.Proofs.Ytnjecekaenddiaa
