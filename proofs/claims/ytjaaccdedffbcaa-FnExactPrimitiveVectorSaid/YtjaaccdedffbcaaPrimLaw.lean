/- The law FnExactPrimitiveVector returns true: the walk, written by lawwalk.py. No condition. -/
import Derived.Test.YtjaaccdedffbcaaPrim
import Derived.Test.YtjaaccdedffbcaaRdInts
namespace Go.Proofs.Ytjaaccdedffbcaa
open Go.RowKit
set_option linter.unusedVariables false
set_option linter.unusedSimpArgs false

set_option maxHeartbeats 8000000 in
theorem walkFnExactPrimitiveVector (W : World) (v0 : Value) (x0 : List Int) (r0 : IsInts W v0 x0) (ok0 : OkInts x0) :
    Calls Try.prog 3 #[v0] W fun e w' => e = .returned (.bool true) ∧ Below W.heap.size W w' := by
  by_cases hbig : 1048576 < x0.length
  · obtain ⟨a, cap, rfl, hi⟩ := r0
    have hle := ok0.1
    go_enter Try.func3, Try.ntmps3
    go_wp2
    go_ret
    exact ⟨rfl, Below.refl _ _⟩
  · skip
    have R0 := Lib.hid r0
    clear r0
    obtain ⟨a, cap, rfl, hi⟩ := R0.out
    clear hi
    have hcnt0 := cntInts_le x0
    have hres : (prim x0).length ≤ x0.length := Nat.le_of_eq (prim_length x0)
    have hrc := cntInts_le (prim x0)
    go_enter Try.func3, Try.ntmps3
    have B := Below.refl W.heap.size W
    go_wp2_with fail
    refine (toInts_h _ _ _ (R0.out.below B) (by omega)).mono ?_
    rintro e w1 ⟨ya0, rfl, o0, b⟩
    have hsa0 := o0.h
    replace o0 := o0.h
    clear hsa0
    have hz1 := b.size
    replace B := B.step b
    clear b
    have oa0 := o0
    clear o0
    go_wp2_with fail
    refine (spec_PrimitiveVector _ _ _ oa0.is (by omega)).mono ?_
    rintro e w2 ⟨yw, rfl, o0, b⟩
    replace o0 := o0.h
    have hz2 := b.size
    replace B := B.step b
    replace oa0 := oa0.below b
    clear b
    have ow := o0
    clear o0
    clear oa0
    go_wp2_with fail
    refine (toInts_h _ _ _ (R0.out.below B) (by omega)).mono ?_
    rintro e w3 ⟨yx0, rfl, o0, b⟩
    have hsx0 := o0.h
    replace o0 := o0.h
    clear hsx0
    have hz3 := b.size
    replace B := B.step b
    replace ow := ow.below b
    clear b
    have ox0 := o0
    clear o0
    go_wp2_with fail
    refine (impl_PrimitiveVector _ _ _ ox0.is (by omega)).mono ?_
    rintro e w4 ⟨yg, rfl, o0, b⟩
    replace o0 := o0.h
    have hz4 := b.size
    replace B := B.step b
    replace ow := ow.below b
    replace ox0 := ox0.below b
    clear b
    have og := o0
    clear o0
    go_wp2_with fail
    refine (eqInts_h _ _ _ _ og.is ow.is (by omega)).mono ?_
    rintro e w5 ⟨rfl, b⟩
    have hz5 := b.size
    replace B := B.step b
    replace ow := ow.below b
    replace ox0 := ox0.below b
    replace og := og.below b
    clear b
    go_wp2_with fail
    refine (toInts_h _ _ _ (R0.out.below B) (by omega)).mono ?_
    rintro e w6 ⟨yz0, rfl, o0, b⟩
    have hsz0 := o0.h
    replace o0 := o0.h
    clear hsz0
    have hz6 := b.size
    replace B := B.step b
    replace ow := ow.below b
    replace ox0 := ox0.below b
    replace og := og.below b
    clear b
    have oz0 := o0
    clear o0
    go_wp2_with fail
    refine (eqInts_h _ _ _ _ ox0.is oz0.is (by omega)).mono ?_
    rintro e w7 ⟨rfl, b⟩
    have hz7 := b.size
    replace B := B.step b
    replace ow := ow.below b
    replace ox0 := ox0.below b
    replace og := og.below b
    replace oz0 := oz0.below b
    clear b
    clear oz0
    go_wp2_with fail
    refine (markInts_h _ _ _ _ _ _ ox0 (by omega) (by omega) (by omega)).mono ?_
    rintro e w8 ⟨rfl, o0, kk⟩
    replace B := B.trans (kk.blk (by omega) (by omega))
    replace ow := ow.kept kk fun k h1 h2 h3 => by have h4 := h3.1; have h5 := h3.2; omega
    replace og := og.kept kk fun k h1 h2 h3 => by have h4 := h3.1; have h5 := h3.2; omega
    have hszw8 := kk.size
    clear kk
    clear ox0
    have ox0 := o0
    clear o0
    go_wp2_with fail
    refine (eqInts_h _ _ _ _ og.is ow.is (by omega)).mono ?_
    rintro e w9 ⟨rfl, b⟩
    have hz9 := b.size
    replace B := B.step b
    replace ow := ow.below b
    replace ox0 := ox0.below b
    replace og := og.below b
    clear b
    clear ox0
    go_wp2_with fail
    refine (markInts_h _ _ _ _ _ _ og (by omega) (by omega) (by omega)).mono ?_
    rintro e w10 ⟨rfl, o0, kk⟩
    replace B := B.trans (kk.blk (by omega) (by omega))
    replace ow := ow.kept kk fun k h1 h2 h3 => by have h4 := h3.1; have h5 := h3.2; omega
    have hszw10 := kk.size
    clear kk
    clear og
    have og := o0
    clear o0
    go_wp2_with fail
    refine (heldInts_h _ _ _ _ og.is (by omega) (by omega) (by omega)).mono ?_
    rintro e w11 ⟨rfl, b⟩
    have hz11 := b.size
    replace B := B.step b
    replace ow := ow.below b
    replace og := og.below b
    clear b
    go_wp2_with fail
    refine (toInts_h _ _ _ (R0.out.below B) (by omega)).mono ?_
    rintro e w12 ⟨yh0, rfl, o0, b⟩
    have hsh0 := o0.h
    replace o0 := o0.h
    clear hsh0
    have hz12 := b.size
    replace B := B.step b
    replace ow := ow.below b
    replace og := og.below b
    clear b
    have oh0 := o0
    clear o0
    go_wp2_with fail
    refine (impl_PrimitiveVector _ _ _ oh0.is (by omega)).mono ?_
    rintro e w13 ⟨yv, rfl, o0, b⟩
    replace o0 := o0.h
    have hz13 := b.size
    replace B := B.step b
    replace ow := ow.below b
    replace og := og.below b
    replace oh0 := oh0.below b
    clear b
    have ov := o0
    clear o0
    clear oh0
    go_wp2_with fail
    refine (eqInts_h _ _ _ _ ov.is ow.is (by omega)).mono ?_
    rintro e w14 ⟨rfl, b⟩
    have hz14 := b.size
    replace B := B.step b
    replace ow := ow.below b
    replace og := og.below b
    replace ov := ov.below b
    clear b
    go_wp2_with fail
    refine (heldInts_h _ _ _ _ og.is (by omega) (by omega) (by omega)).mono ?_
    rintro e w15 ⟨rfl, b⟩
    have hz15 := b.size
    replace B := B.step b
    replace ow := ow.below b
    replace og := og.below b
    replace ov := ov.below b
    clear b
    go_wp2_with fail
    go_ret
    exact ⟨rfl, B⟩
end Go.Proofs.Ytjaaccdedffbcaa
