/- The law FnExactTransposeMatrix returns true: the walk, written by lawwalk2.py. No condition. -/
import Derived.Test.YtkjoeogoebpkjaaTrm
import Derived.Test.YtkjoeogoebpkjaaIntss
import Derived.Deep.RegionHeld3
namespace Go.Proofs.Ytkjoeogoebpkjaa
open Go.RowKit
set_option maxRecDepth 100000
set_option linter.unusedVariables false
set_option linter.unusedSimpArgs false

set_option maxHeartbeats 8000000 in
theorem walkFnExactTransposeMatrix (W : World) (v0 : Value) (x0 : List (List Int)) (r0 : IsIntss W v0 x0) (ok0 : OkIntss x0) :
    Calls Try.prog 3 #[v0] W fun e w' => e = .returned (.bool true) ∧ Below W.heap.size W w' := by
  have R0 := Lib.hid r0
  clear r0
  have BB : Below W.heap.size W W := Below.refl _ _
  by_cases hbig0 : 1048576 < szIntss x0
  · go_enter Try.func3, Try.ntmps3
    have B := BB
    go_wp2_with fail
    refine (szIntss_h _ _ x0 (1048576) (R0.out.below B) ok0 (by omega) (by omega)).mono ?_
    rintro e w1 ⟨rfl, b⟩
    have hzw1 := b.size
    replace B := B.step b
    clear b
    rw [szRes_pos (by omega)]
    go_wp2_with fail
    go_ret
    exact ⟨rfl, B⟩
  have hsm0 : szIntss x0 ≤ 1048576 := by omega
  have hcnt0 := cntIntss_le x0
  have hres := trmL_sz x0
  have hres2 := cntIntss_le (trmL x0)
  go_enter Try.func3, Try.ntmps3
  have B := BB
  go_wp2_with fail
  refine (szIntss_h _ _ x0 (1048576) (R0.out.below B) ok0 (by omega) (by omega)).mono ?_
  rintro e w1 ⟨rfl, b⟩
  have hzw1 := b.size
  replace B := B.step b
  clear b
  rw [szRes_neg (by omega)]
  go_wp2_with fail
  refine (toIntss_h _ _ x0 (R0.out.below B) hsm0).mono ?_
  rintro e w2 ⟨ya0, rfl, o0, b⟩
  have hzw2 := b.size
  replace B := B.step b
  clear b
  have oa0 := o0.h
  clear o0
  go_wp2_with fail
  refine (spec_TransposeMatrix _ _ x0 oa0.is hsm0).mono ?_
  rintro e w3 ⟨yw0, rfl, o0, b⟩
  have hzw3 := b.size
  replace B := B.step b
  replace oa0 := oa0.below b
  clear b
  have ow0 := o0.h
  clear o0
  clear oa0
  go_wp2_with fail
  refine (toIntss_h _ _ x0 (R0.out.below B) hsm0).mono ?_
  rintro e w4 ⟨yx0, rfl, o0, b⟩
  have hzw4 := b.size
  replace B := B.step b
  replace ow0 := ow0.below b
  clear b
  have ox0 := o0.h
  clear o0
  go_wp2_with fail
  refine (impl_TransposeMatrix _ _ x0 ox0.is hsm0).mono ?_
  rintro e w5 ⟨yg0, rfl, o0, b⟩
  have hzw5 := b.size
  replace B := B.step b
  replace ow0 := ow0.below b
  replace ox0 := ox0.below b
  clear b
  have og0 := o0.h
  clear o0
  go_wp2_with fail
  refine (eqIntss_h _ _ _ _ og0.is ow0.is (by omega)).mono ?_
  rintro e w6 ⟨rfl, b⟩
  have hzw6 := b.size
  replace B := B.step b
  replace ow0 := ow0.below b
  replace ox0 := ox0.below b
  replace og0 := og0.below b
  clear b
  go_wp2_with fail
  refine (toIntss_h _ _ x0 (R0.out.below B) hsm0).mono ?_
  rintro e w7 ⟨yz0, rfl, o0, b⟩
  have hzw7 := b.size
  replace B := B.step b
  replace ow0 := ow0.below b
  replace ox0 := ox0.below b
  replace og0 := og0.below b
  clear b
  have oz0 := o0.h
  clear o0
  go_wp2_with fail
  refine (eqIntss_h _ _ _ _ ox0.is oz0.is (by omega)).mono ?_
  rintro e w8 ⟨rfl, b⟩
  have hzw8 := b.size
  replace B := B.step b
  replace ow0 := ow0.below b
  replace ox0 := ox0.below b
  replace og0 := og0.below b
  replace oz0 := oz0.below b
  clear b
  clear oz0
  go_wp2_with fail
  refine (markIntss_h _ _ _ _ _ _ ox0 (by omega) (by omega) (by omega)).mono ?_
  rintro e w9 ⟨rfl, o0, kk⟩
  have hzw9 := kk.size
  replace B := B.trans (kk.blk (by omega) (by omega))
  replace ow0 := ow0.kept kk fun k h1 h2 h3 => by have h4 := h3.1; have h5 := h3.2; omega
  replace og0 := og0.kept kk fun k h1 h2 h3 => by have h4 := h3.1; have h5 := h3.2; omega
  clear kk ox0
  have ox0 := o0
  clear o0
  go_wp2_with fail
  refine (eqIntss_h _ _ _ _ og0.is ow0.is (by omega)).mono ?_
  rintro e w10 ⟨rfl, b⟩
  have hzw10 := b.size
  replace B := B.step b
  replace ow0 := ow0.below b
  replace ox0 := ox0.below b
  replace og0 := og0.below b
  clear b
  go_wp2_with fail
  refine (markIntss_h _ _ _ _ _ _ og0 (by omega) (by omega) (by omega)).mono ?_
  rintro e w11 ⟨rfl, o0, kk⟩
  have hzw11 := kk.size
  replace B := B.trans (kk.blk (by omega) (by omega))
  replace ow0 := ow0.kept kk fun k h1 h2 h3 => by have h4 := h3.1; have h5 := h3.2; omega
  replace ox0 := ox0.kept kk fun k h1 h2 h3 => by have h4 := h3.1; have h5 := h3.2; omega
  clear kk og0
  have og0 := o0
  clear o0
  go_wp2_with fail
  refine (heldIntss_h _ _ _ _ og0.is (by omega) (by omega) (by omega)).mono ?_
  rintro e w12 ⟨rfl, b⟩
  have hzw12 := b.size
  replace B := B.step b
  replace ow0 := ow0.below b
  replace ox0 := ox0.below b
  replace og0 := og0.below b
  clear b
  go_wp2_with fail
  refine (toIntss_h _ _ x0 (R0.out.below B) hsm0).mono ?_
  rintro e w13 ⟨ym0, rfl, o0, b⟩
  have hzw13 := b.size
  replace B := B.step b
  replace ow0 := ow0.below b
  replace ox0 := ox0.below b
  replace og0 := og0.below b
  clear b
  have om0 := o0.h
  clear o0
  go_wp2_with fail
  refine (impl_TransposeMatrix _ _ x0 om0.is hsm0).mono ?_
  rintro e w14 ⟨yh0, rfl, o0, b⟩
  have hzw14 := b.size
  replace B := B.step b
  replace ow0 := ow0.below b
  replace ox0 := ox0.below b
  replace og0 := og0.below b
  replace om0 := om0.below b
  clear b
  have oh0 := o0.h
  clear o0
  clear om0
  go_wp2_with fail
  refine (eqIntss_h _ _ _ _ oh0.is ow0.is (by omega)).mono ?_
  rintro e w15 ⟨rfl, b⟩
  have hzw15 := b.size
  replace B := B.step b
  replace ow0 := ow0.below b
  replace ox0 := ox0.below b
  replace og0 := og0.below b
  replace oh0 := oh0.below b
  clear b
  go_wp2_with fail
  refine (heldIntss_h _ _ _ _ og0.is (by omega) (by omega) (by omega)).mono ?_
  rintro e w16 ⟨rfl, b⟩
  have hzw16 := b.size
  replace B := B.step b
  replace ow0 := ow0.below b
  replace ox0 := ox0.below b
  replace og0 := og0.below b
  replace oh0 := oh0.below b
  clear b
  go_wp2_with fail
  go_ret
  exact ⟨rfl, B⟩
end Go.Proofs.Ytkjoeogoebpkjaa
