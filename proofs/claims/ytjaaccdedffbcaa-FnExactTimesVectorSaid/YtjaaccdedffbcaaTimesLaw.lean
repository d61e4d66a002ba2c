/- The law FnExactTimesVector returns true: the walk, written by lawwalk.py. No condition. -/
import Derived.Test.YtjaaccdedffbcaaTimes
import Derived.Test.YtjaaccdedffbcaaRdIntss
import Derived.Test.YtjaaccdedffbcaaRdInts
namespace Go.Proofs.Ytjaaccdedffbcaa
open Go.RowKit
set_option linter.unusedVariables false
set_option linter.unusedSimpArgs false

set_option maxHeartbeats 8000000 in
theorem walkFnExactTimesVector (W : World) (v0 : Value) (x0 : List (List Int)) (r0 : IsIntss W v0 x0) (ok0 : OkIntss x0) (v1 : Value) (x1 : List Int) (r1 : IsInts W v1 x1) (ok1 : OkInts x1) :
    Calls Try.prog 4 #[v0, v1] W fun e w' => e = .returned (.bool true) ∧ Below W.heap.size W w' := by
  have R0 := Lib.hid r0
  clear r0
  have R1 := Lib.hid r1
  clear r1
  obtain ⟨a1, cap1, rfl, hi1⟩ := R1.out
  clear hi1
  have hle1 := ok1.1
  by_cases hbig1 : 1048576 < x1.length
  · go_enter Try.func4, Try.ntmps4
    go_wp2_with fail
    go_ret
    exact ⟨rfl, Below.refl _ _⟩
  by_cases hbig0 : 1048576 < szIntss x0
  · go_enter Try.func4, Try.ntmps4
    have B := Below.refl W.heap.size W
    go_wp2_with fail
    refine (szIntss_h _ _ _ (1048576) (R0.out.below B) ok0 (by omega) (by omega)).mono ?_
    rintro e ws0 ⟨rfl, bs⟩
    replace B := B.step bs
    clear bs
    rw [szRes_pos (by omega)]
    go_wp2_with fail
    go_ret
    exact ⟨rfl, B⟩
  · skip
    have hcnt0 := cntIntss_le x0
    have hcnt1 := cntInts_le x1
    have hres := timesV_len x0 x1
    have hszl : x0.length ≤ szIntss x0 := Nat.le_add_right _ _
    have hrc := cntInts_le (timesV x0 x1)
    go_enter Try.func4, Try.ntmps4
    have B := Below.refl W.heap.size W
    go_wp2_with fail
    refine (szIntss_h _ _ _ (1048576) (R0.out.below B) ok0 (by omega) (by omega)).mono ?_
    rintro e w1 ⟨rfl, b⟩
    have hz1 := b.size
    replace B := B.step b
    clear b
    rw [szRes_neg (by omega)]
    go_wp2_with fail
    refine (toIntss_h _ _ _ (R0.out.below B) (by omega)).mono ?_
    rintro e w2 ⟨ya0, rfl, o0, b⟩
    have hsa0 := o0.h
    replace o0 := o0.h
    clear hsa0
    have hz2 := b.size
    replace B := B.step b
    clear b
    have oa0 := o0
    clear o0
    go_wp2_with fail
    refine (toInts_h _ _ _ (R1.out.below B) (by omega)).mono ?_
    rintro e w3 ⟨ya1, rfl, o0, b⟩
    have hsa1 := o0.h
    replace o0 := o0.h
    clear hsa1
    have hz3 := b.size
    replace B := B.step b
    replace oa0 := oa0.below b
    clear b
    have oa1 := o0
    clear o0
    go_wp2_with fail
    refine (spec_TimesVector _ _ _ oa0.is _ _ oa1.is (by omega) (by omega)).mono ?_
    rintro e w4 ⟨yw, rfl, o0, b⟩
    replace o0 := o0.h
    have hz4 := b.size
    replace B := B.step b
    replace oa0 := oa0.below b
    replace oa1 := oa1.below b
    clear b
    have ow := o0
    clear o0
    clear oa0
    clear oa1
    go_wp2_with fail
    refine (toIntss_h _ _ _ (R0.out.below B) (by omega)).mono ?_
    rintro e w5 ⟨yx0, rfl, o0, b⟩
    have hsx0 := o0.h
    replace o0 := o0.h
    clear hsx0
    have hz5 := b.size
    replace B := B.step b
    replace ow := ow.below b
    clear b
    have ox0 := o0
    clear o0
    go_wp2_with fail
    refine (toInts_h _ _ _ (R1.out.below B) (by omega)).mono ?_
    rintro e w6 ⟨yx1, rfl, o0, b⟩
    have hsx1 := o0.h
    replace o0 := o0.h
    clear hsx1
    have hz6 := b.size
    replace B := B.step b
    replace ow := ow.below b
    replace ox0 := ox0.below b
    clear b
    have ox1 := o0
    clear o0
    go_wp2_with fail
    refine (impl_TimesVector _ _ _ ox0.is _ _ ox1.is (by omega) (by omega)).mono ?_
    rintro e w7 ⟨yg, rfl, o0, b⟩
    replace o0 := o0.h
    have hz7 := b.size
    replace B := B.step b
    replace ow := ow.below b
    replace ox0 := ox0.below b
    replace ox1 := ox1.below b
    clear b
    have og := o0
    clear o0
    go_wp2_with fail
    refine (eqInts_h _ _ _ _ og.is ow.is (by omega)).mono ?_
    rintro e w8 ⟨rfl, b⟩
    have hz8 := b.size
    replace B := B.step b
    replace ow := ow.below b
    replace ox0 := ox0.below b
    replace ox1 := ox1.below b
    replace og := og.below b
    clear b
    go_wp2_with fail
    refine (toIntss_h _ _ _ (R0.out.below B) (by omega)).mono ?_
    rintro e w9 ⟨yz0, rfl, o0, b⟩
    have hsz0 := o0.h
    replace o0 := o0.h
    clear hsz0
    have hz9 := b.size
    replace B := B.step b
    replace ow := ow.below b
    replace ox0 := ox0.below b
    replace ox1 := ox1.below b
    replace og := og.below b
    clear b
    have oz0 := o0
    clear o0
    go_wp2_with fail
    refine (eqIntss_h _ _ _ _ ox0.is oz0.is (by omega)).mono ?_
    rintro e w10 ⟨rfl, b⟩
    have hz10 := b.size
    replace B := B.step b
    replace ow := ow.below b
    replace ox0 := ox0.below b
    replace ox1 := ox1.below b
    replace og := og.below b
    replace oz0 := oz0.below b
    clear b
    clear oz0
    go_wp2_with fail
    refine (toInts_h _ _ _ (R1.out.below B) (by omega)).mono ?_
    rintro e w11 ⟨yz1, rfl, o0, b⟩
    have hsz1 := o0.h
    replace o0 := o0.h
    clear hsz1
    have hz11 := b.size
    replace B := B.step b
    replace ow := ow.below b
    replace ox0 := ox0.below b
    replace ox1 := ox1.below b
    replace og := og.below b
    clear b
    have oz1 := o0
    clear o0
    go_wp2_with fail
    refine (eqInts_h _ _ _ _ ox1.is oz1.is (by omega)).mono ?_
    rintro e w12 ⟨rfl, b⟩
    have hz12 := b.size
    replace B := B.step b
    replace ow := ow.below b
    replace ox0 := ox0.below b
    replace ox1 := ox1.below b
    replace og := og.below b
    replace oz1 := oz1.below b
    clear b
    clear oz1
    go_wp2_with fail
    refine (markIntss_h _ _ _ _ _ _ ox0 (by omega) (by omega) (by omega)).mono ?_
    rintro e w13 ⟨rfl, o0, kk⟩
    replace B := B.trans (kk.blk (by omega) (by omega))
    replace ow := ow.kept kk fun k h1 h2 h3 => by have h4 := h3.1; have h5 := h3.2; omega
    replace ox1 := ox1.kept kk fun k h1 h2 h3 => by have h4 := h3.1; have h5 := h3.2; omega
    replace og := og.kept kk fun k h1 h2 h3 => by have h4 := h3.1; have h5 := h3.2; omega
    have hszw13 := kk.size
    clear kk
    clear ox0
    have ox0 := o0
    clear o0
    go_wp2_with fail
    refine (markInts_h _ _ _ _ _ _ ox1 (by omega) (by omega) (by omega)).mono ?_
    rintro e w14 ⟨rfl, o0, kk⟩
    replace B := B.trans (kk.blk (by omega) (by omega))
    replace ow := ow.kept kk fun k h1 h2 h3 => by have h4 := h3.1; have h5 := h3.2; omega
    replace ox0 := ox0.kept kk fun k h1 h2 h3 => by have h4 := h3.1; have h5 := h3.2; omega
    replace og := og.kept kk fun k h1 h2 h3 => by have h4 := h3.1; have h5 := h3.2; omega
    have hszw14 := kk.size
    clear kk
    clear ox1
    have ox1 := o0
    clear o0
    go_wp2_with fail
    refine (eqInts_h _ _ _ _ og.is ow.is (by omega)).mono ?_
    rintro e w15 ⟨rfl, b⟩
    have hz15 := b.size
    replace B := B.step b
    replace ow := ow.below b
    replace ox0 := ox0.below b
    replace ox1 := ox1.below b
    replace og := og.below b
    clear b
    clear ox0
    clear ox1
    go_wp2_with fail
    refine (markInts_h _ _ _ _ _ _ og (by omega) (by omega) (by omega)).mono ?_
    rintro e w16 ⟨rfl, o0, kk⟩
    replace B := B.trans (kk.blk (by omega) (by omega))
    replace ow := ow.kept kk fun k h1 h2 h3 => by have h4 := h3.1; have h5 := h3.2; omega
    have hszw16 := kk.size
    clear kk
    clear og
    have og := o0
    clear o0
    go_wp2_with fail
    refine (heldInts_h _ _ _ _ og.is (by omega) (by omega) (by omega)).mono ?_
    rintro e w17 ⟨rfl, b⟩
    have hz17 := b.size
    replace B := B.step b
    replace ow := ow.below b
    replace og := og.below b
    clear b
    go_wp2_with fail
    refine (toIntss_h _ _ _ (R0.out.below B) (by omega)).mono ?_
    rintro e w18 ⟨yh0, rfl, o0, b⟩
    have hsh0 := o0.h
    replace o0 := o0.h
    clear hsh0
    have hz18 := b.size
    replace B := B.step b
    replace ow := ow.below b
    replace og := og.below b
    clear b
    have oh0 := o0
    clear o0
    go_wp2_with fail
    refine (toInts_h _ _ _ (R1.out.below B) (by omega)).mono ?_
    rintro e w19 ⟨yh1, rfl, o0, b⟩
    have hsh1 := o0.h
    replace o0 := o0.h
    clear hsh1
    have hz19 := b.size
    replace B := B.step b
    replace ow := ow.below b
    replace og := og.below b
    replace oh0 := oh0.below b
    clear b
    have oh1 := o0
    clear o0
    go_wp2_with fail
    refine (impl_TimesVector _ _ _ oh0.is _ _ oh1.is (by omega) (by omega)).mono ?_
    rintro e w20 ⟨yv, rfl, o0, b⟩
    replace o0 := o0.h
    have hz20 := b.size
    replace B := B.step b
    replace ow := ow.below b
    replace og := og.below b
    replace oh0 := oh0.below b
    replace oh1 := oh1.below b
    clear b
    have ov := o0
    clear o0
    clear oh0
    clear oh1
    go_wp2_with fail
    refine (eqInts_h _ _ _ _ ov.is ow.is (by omega)).mono ?_
    rintro e w21 ⟨rfl, b⟩
    have hz21 := b.size
    replace B := B.step b
    replace ow := ow.below b
    replace og := og.below b
    replace ov := ov.below b
    clear b
    go_wp2_with fail
    refine (heldInts_h _ _ _ _ og.is (by omega) (by omega) (by omega)).mono ?_
    rintro e w22 ⟨rfl, b⟩
    have hz22 := b.size
    replace B := B.step b
    replace ow := ow.below b
    replace og := og.below b
    replace ov := ov.below b
    clear b
    go_wp2_with fail
    go_ret
    exact ⟨rfl, B⟩
end Go.Proofs.Ytjaaccdedffbcaa
