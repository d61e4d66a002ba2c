/- The law FnExactAreSameSteps returns true: the walk, written by lawwalk.py. No condition. -/
import Derived.Test.YtioojfiolepjkaaSs
import Derived.Test.YtioojfiolepjkaaRdSteps
namespace Go.Proofs.Ytioojfiolepjkaa
open Go.RowKit
set_option linter.unusedVariables false
set_option linter.unusedSimpArgs false

set_option maxHeartbeats 8000000 in
theorem walkFnExactAreSameSteps (W : World) (v0 : Value) (x0 : List StepT) (r0 : IsSteps W v0 x0) (ok0 : OkSteps x0) (v1 : Value) (x1 : List StepT) (r1 : IsSteps W v1 x1) (ok1 : OkSteps x1) :
    Calls Try.prog 7 #[v0, v1] W fun e w' => e = .returned (.bool true) ∧ Below W.heap.size W w' := by
  by_cases hbig0 : 1048576 < x0.length
  · go_enter Try.func7, Try.ntmps7
    have B := Below.refl W.heap.size W
    go_wp2_with fail
    refine (szSteps_h _ _ _ _ (r0.below B) ok0 (by omega) (by omega)).mono ?_
    rintro e ws0 ⟨rfl, bs⟩
    replace B := B.step bs
    clear bs
    rw [szRes_pos (by omega)]
    go_wp2_with fail
    go_ret
    exact ⟨rfl, B⟩
  by_cases hbig1 : 1048576 < x0.length + x1.length
  · go_enter Try.func7, Try.ntmps7
    have B := Below.refl W.heap.size W
    go_wp2_with fail
    refine (szSteps_h _ _ _ _ (r0.below B) ok0 (by omega) (by omega)).mono ?_
    rintro e ws0 ⟨rfl, bs⟩
    replace B := B.step bs
    clear bs
    rw [szRes_neg (by omega)]
    go_wp2_with fail
    refine (szSteps_h _ _ _ _ (r1.below B) ok1 (by omega) (by omega)).mono ?_
    rintro e ws1 ⟨rfl, bs⟩
    replace B := B.step bs
    clear bs
    rw [szRes_pos (by omega)]
    go_wp2_with fail
    go_ret
    exact ⟨rfl, B⟩
  · skip
    have R0 := Lib.hid r0
    clear r0
    have R1 := Lib.hid r1
    clear r1
     
     
     
     
    go_enter Try.func7, Try.ntmps7
    have B := Below.refl W.heap.size W
    go_wp2_with fail
    refine (szSteps_h _ _ _ _ (R0.out.below B) ok0 (by omega) (by omega)).mono ?_
    rintro e w1 ⟨rfl, b⟩
    have hz1 := b.size
    replace B := B.step b
    clear b
    rw [szRes_neg (by omega)]
    go_wp2_with fail
    refine (szSteps_h _ _ _ _ (R1.out.below B) ok1 (by omega) (by omega)).mono ?_
    rintro e w2 ⟨rfl, b⟩
    have hz2 := b.size
    replace B := B.step b
    clear b
    rw [szRes_neg (by omega)]
    go_wp2_with fail
    refine (toSteps_h _ _ _ (R0.out.below B) (by omega)).mono ?_
    rintro e w3 ⟨ya0, rfl, o0, b⟩
    have hsa0 := o0.h
    replace o0 := o0.h
    clear hsa0
    have hz3 := b.size
    replace B := B.step b
    clear b
    have oa0 := o0
    clear o0
    go_wp2_with fail
    refine (toSteps_h _ _ _ (R1.out.below B) (by omega)).mono ?_
    rintro e w4 ⟨ya1, rfl, o0, b⟩
    have hsa1 := o0.h
    replace o0 := o0.h
    clear hsa1
    have hz4 := b.size
    replace B := B.step b
    replace oa0 := oa0.below b
    clear b
    have oa1 := o0
    clear o0
    go_wp2_with fail
    refine (spec_AreSameSteps _ _ _ oa0.is _ _ oa1.is (by omega) (by omega)).mono ?_
    rintro e w5 ⟨rfl, b⟩
    have hz5 := b.size
    replace B := B.step b
    replace oa0 := oa0.below b
    replace oa1 := oa1.below b
    clear b
    clear oa0
    clear oa1
    go_wp2_with fail
    refine (toSteps_h _ _ _ (R0.out.below B) (by omega)).mono ?_
    rintro e w6 ⟨yx0, rfl, o0, b⟩
    have hsx0 := o0.h
    replace o0 := o0.h
    clear hsx0
    have hz6 := b.size
    replace B := B.step b
    clear b
    have ox0 := o0
    clear o0
    go_wp2_with fail
    refine (toSteps_h _ _ _ (R1.out.below B) (by omega)).mono ?_
    rintro e w7 ⟨yx1, rfl, o0, b⟩
    have hsx1 := o0.h
    replace o0 := o0.h
    clear hsx1
    have hz7 := b.size
    replace B := B.step b
    replace ox0 := ox0.below b
    clear b
    have ox1 := o0
    clear o0
    go_wp2_with fail
    refine (impl_AreSameSteps _ _ _ ox0.is _ _ ox1.is (by omega) (by omega)).mono ?_
    rintro e w8 ⟨rfl, b⟩
    have hz8 := b.size
    replace B := B.step b
    replace ox0 := ox0.below b
    replace ox1 := ox1.below b
    clear b
    go_wp2_with fail
    refine (toSteps_h _ _ _ (R0.out.below B) (by omega)).mono ?_
    rintro e w9 ⟨yz0, rfl, o0, b⟩
    have hsz0 := o0.h
    replace o0 := o0.h
    clear hsz0
    have hz9 := b.size
    replace B := B.step b
    replace ox0 := ox0.below b
    replace ox1 := ox1.below b
    clear b
    have oz0 := o0
    clear o0
    go_wp2_with fail
    refine (eqSteps_h _ _ _ _ ox0.is oz0.is (by omega)).mono ?_
    rintro e w10 ⟨rfl, b⟩
    have hz10 := b.size
    replace B := B.step b
    replace ox0 := ox0.below b
    replace ox1 := ox1.below b
    replace oz0 := oz0.below b
    clear b
    clear oz0
    go_wp2_with fail
    refine (toSteps_h _ _ _ (R1.out.below B) (by omega)).mono ?_
    rintro e w11 ⟨yz1, rfl, o0, b⟩
    have hsz1 := o0.h
    replace o0 := o0.h
    clear hsz1
    have hz11 := b.size
    replace B := B.step b
    replace ox0 := ox0.below b
    replace ox1 := ox1.below b
    clear b
    have oz1 := o0
    clear o0
    go_wp2_with fail
    refine (eqSteps_h _ _ _ _ ox1.is oz1.is (by omega)).mono ?_
    rintro e w12 ⟨rfl, b⟩
    have hz12 := b.size
    replace B := B.step b
    replace ox0 := ox0.below b
    replace ox1 := ox1.below b
    replace oz1 := oz1.below b
    clear b
    clear oz1
    go_wp2_with fail
    go_ret
    exact ⟨rfl, B⟩
end Go.Proofs.Ytioojfiolepjkaa
