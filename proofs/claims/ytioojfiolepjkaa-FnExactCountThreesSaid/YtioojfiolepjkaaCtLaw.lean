/- The law FnExactCountThrees returns true: the walk, written by lawwalk.py. No condition. -/
import Derived.Test.YtioojfiolepjkaaCt
import Derived.Test.YtioojfiolepjkaaRdSteps
namespace Go.Proofs.Ytioojfiolepjkaa
open Go.RowKit
set_option linter.unusedVariables false
set_option linter.unusedSimpArgs false

set_option maxHeartbeats 8000000 in
theorem walkFnExactCountThrees (W : World) (v0 : Value) (x0 : List StepT) (r0 : IsSteps W v0 x0) (ok0 : OkSteps x0) :
    Calls Try.prog 6 #[v0] W fun e w' => e = .returned (.bool true) ∧ Below W.heap.size W w' := by
  by_cases hbig0 : 1048576 < x0.length
  · go_enter Try.func6, Try.ntmps6
    have B := Below.refl W.heap.size W
    go_wp2_with fail
    refine (szSteps_h _ _ _ _ (r0.below B) ok0 (by omega) (by omega)).mono ?_
    rintro e ws0 ⟨rfl, bs⟩
    replace B := B.step bs
    clear bs
    rw [szRes_pos (by omega)]
    go_wp2_with fail
    go_ret
    exact ⟨rfl, B⟩
  · skip
    have R0 := Lib.hid r0
    clear r0
     
     
     
     
    go_enter Try.func6, Try.ntmps6
    have B := Below.refl W.heap.size W
    go_wp2_with fail
    refine (szSteps_h _ _ _ _ (R0.out.below B) ok0 (by omega) (by omega)).mono ?_
    rintro e w1 ⟨rfl, b⟩
    have hz1 := b.size
    replace B := B.step b
    clear b
    rw [szRes_neg (by omega)]
    go_wp2_with fail
    refine (toSteps_h _ _ _ (R0.out.below B) (by omega)).mono ?_
    rintro e w2 ⟨ya0, rfl, o0, b⟩
    have hsa0 := o0.h
    replace o0 := o0.h
    clear hsa0
    have hz2 := b.size
    replace B := B.step b
    clear b
    have oa0 := o0
    clear o0
    go_wp2_with fail
    refine (spec_CountThrees _ _ _ oa0.is (by omega)).mono ?_
    rintro e w3 ⟨rfl, b⟩
    have hz3 := b.size
    replace B := B.step b
    replace oa0 := oa0.below b
    clear b
    clear oa0
    go_wp2_with fail
    refine (toSteps_h _ _ _ (R0.out.below B) (by omega)).mono ?_
    rintro e w4 ⟨yx0, rfl, o0, b⟩
    have hsx0 := o0.h
    replace o0 := o0.h
    clear hsx0
    have hz4 := b.size
    replace B := B.step b
    clear b
    have ox0 := o0
    clear o0
    go_wp2_with fail
    refine (impl_CountThrees _ _ _ ox0.is (by omega)).mono ?_
    rintro e w5 ⟨rfl, b⟩
    have hz5 := b.size
    replace B := B.step b
    replace ox0 := ox0.below b
    clear b
    go_wp2_with fail
    refine (toSteps_h _ _ _ (R0.out.below B) (by omega)).mono ?_
    rintro e w6 ⟨yz0, rfl, o0, b⟩
    have hsz0 := o0.h
    replace o0 := o0.h
    clear hsz0
    have hz6 := b.size
    replace B := B.step b
    replace ox0 := ox0.below b
    clear b
    have oz0 := o0
    clear o0
    go_wp2_with fail
    refine (eqSteps_h _ _ _ _ ox0.is oz0.is (by omega)).mono ?_
    rintro e w7 ⟨rfl, b⟩
    have hz7 := b.size
    replace B := B.step b
    replace ox0 := ox0.below b
    replace oz0 := oz0.below b
    clear b
    clear oz0
    go_wp2_with fail
    go_ret
    exact ⟨rfl, B⟩
end Go.Proofs.Ytioojfiolepjkaa
