/- The law FnExactBuildSteps returns true: the walk, written by lawwalk2.py. No condition. -/
import Derived.Test.YtmfeabfbhaiaeaaBld3
import Derived.Test.YtmfeabfbhaiaeaaBxg
import Derived.Test.YtmfeabfbhaiaeaaRdInt
import Derived.Test.YtmfeabfbhaiaeaaRdSteps
import Derived.Test.YtmfeabfbhaiaeaaBox
import Derived.Test.YtmfeabfbhaiaeaaFwH
import Derived.Test.YtmfeabfbhaiaeaaFwM
import Derived.Deep.RegionHeld3
namespace Go.Proofs.Ytmfeabfbhaiaeaa
open Go.RowKit
set_option maxRecDepth 100000
set_option linter.unusedVariables false
set_option linter.unusedSimpArgs false

set_option maxHeartbeats 8000000 in
theorem walkFnExactBuildSteps (W : World) (v0 : Value) (x0 : Int) (r0 : IsInt W v0 x0) (ok0 : OkInt x0) (v1 : Value) (x1 : List StepT) (r1 : IsSteps W v1 x1) (ok1 : OkSteps x1) :
    Calls Try.prog 6 #[v0, v1] W fun e w' => e = .returned (.bool true) ∧ Below W.heap.size W w' := by
  obtain rfl := r0
  have R1 := Lib.hid r1
  clear r1
  have BB : Below W.heap.size W W := Below.refl _ _
  by_cases hbig0 : 1048576 < x1.length
  · go_enter Try.func6, Try.ntmps6
    have B := BB
    go_wp2_with fail
    refine (szSteps_h _ _ x1 (1048576) (R1.out.below B) ok1 (by omega) (by omega)).mono ?_
    rintro e w1 ⟨rfl, b⟩
    have hzw1 := b.size
    replace B := B.step b
    clear b
    rw [szRes_pos (by omega)]
    go_wp2_with fail
    go_ret
    exact ⟨rfl, B⟩
  have hsm1 : x1.length ≤ 1048576 := by omega
  have hcnt1 := cntSteps_le x1
  obtain ⟨⟨pr, lr⟩, hR⟩ : ∃ R, R = (bldF x0 x1).1 := ⟨_, rfl⟩
  obtain ⟨okr, hO⟩ : ∃ o, o = (bldF x0 x1).2 := ⟨_, rfl⟩
  have hres : szGraph (pr, lr) ≤ 1048576 := hR ▸ Nat.le_trans (bldF_sz _ _) (by decide)
  have hcntr := cntGraph_le (pr, lr)
  have HRES := Lib.hid hR
  have HOKR := Lib.hid hO
  clear hR hO
  go_enter Try.func6, Try.ntmps6
  have B := BB
  go_wp2_with fail
  refine (szSteps_h _ _ x1 (1048576) (R1.out.below B) ok1 (by omega) (by omega)).mono ?_
  rintro e w1 ⟨rfl, b⟩
  have hzw1 := b.size
  replace B := B.step b
  clear b
  rw [szRes_neg (by omega)]
  go_wp2_with fail
  refine (toSteps_h _ _ x1 (R1.out.below B) hsm1).mono ?_
  rintro e w2 ⟨ya1, rfl, o0, b⟩
  have hzw2 := b.size
  replace B := B.step b
  clear b
  have oa1 := o0.h
  clear o0
  go_wp2_with fail
  refine (spec_BuildSteps _ _ _ x1 oa1.is hsm1).mono ?_
  rintro e w3 ⟨yx, rfl, o0, b⟩
  rw [← HOKR.out]
  rw [← HRES.out] at o0
  obtain ⟨vb, ⟨abw, cbw, rfl, rfl⟩, ob⟩ := o0.h
  clear o0
  have hzw3 := b.size
  replace B := B.step b
  replace oa1 := oa1.below b
  clear b
  have ow0 : HGraph w3 w2.heap.size w3.heap.size (.agg #[.int .i64 pr, .slice abw lr.length cbw]) (pr, lr) := ⟨_, ⟨abw, cbw, rfl, rfl⟩, ob⟩
  clear ob
  dsimp only
  clear oa1
  go_wp2_with fail
  have ba : Below w3.heap.size w3 (w3.alloc (.cells #[.int .i64 pr, .slice abw lr.length cbw] 32)) := (Below.refl _ _).alloc (Nat.le_refl _) _
  have hzu3 : (w3.alloc (.cells #[.int .i64 pr, .slice abw lr.length cbw] 32)).heap.size ≤ w3.heap.size + 1 := by simp
  have hyu3 : w3.heap.size + 1 ≤ (w3.alloc (.cells #[.int .i64 pr, .slice abw lr.length cbw] 32)).heap.size := by simp
  replace B := B.step ba
  replace ow0 := ow0.below ba
  clear ba
  have BW0 : Hid (BoxGr (w3.alloc (.cells #[.int .i64 pr, .slice abw lr.length cbw] 32)) (w3.heap.size) pr abw lr.length cbw) := Lib.hid (BoxGr.at rfl)
  generalize (w3.alloc (.cells #[.int .i64 pr, .slice abw lr.length cbw] 32)) = u3 at *
  obtain ⟨zBW0, fBW00, fBW01⟩ := BW0.out
  refine (toSteps_h _ _ x1 (R1.out.below B) hsm1).mono ?_
  rintro e w4 ⟨yx1, rfl, o0, b⟩
  have hzw4 := b.size
  clear zBW0 fBW00 fBW01
  replace B := B.step b
  replace BW0 := Lib.hid (BW0.out.below b)
  replace ow0 := ow0.below b
  clear b
  have ox1 := o0.h
  clear o0
  obtain ⟨zBW0, fBW00, fBW01⟩ := BW0.out
  go_wp2_with fail
  refine (impl_BuildSteps _ _ _ x1 ox1.is hsm1).mono ?_
  rintro e w5 ⟨yx, rfl, o0, b⟩
  rw [← HOKR.out]
  rw [← HRES.out] at o0
  obtain ⟨vb, ⟨abg, cbg, rfl, rfl⟩, ob⟩ := o0.h
  clear o0
  have hzw5 := b.size
  clear zBW0 fBW00 fBW01
  replace B := B.step b
  replace BW0 := Lib.hid (BW0.out.below b)
  replace ow0 := ow0.below b
  replace ox1 := ox1.below b
  clear b
  have og0 : HGraph w5 w4.heap.size w5.heap.size (.agg #[.int .i64 pr, .slice abg lr.length cbg]) (pr, lr) := ⟨_, ⟨abg, cbg, rfl, rfl⟩, ob⟩
  clear ob
  dsimp only
  obtain ⟨zBW0, fBW00, fBW01⟩ := BW0.out
  go_wp2_with fail
  clear zBW0 fBW00 fBW01
  have ba : Below w5.heap.size w5 (w5.alloc (.cells #[.int .i64 pr, .slice abg lr.length cbg] 32)) := (Below.refl _ _).alloc (Nat.le_refl _) _
  have hzu5 : (w5.alloc (.cells #[.int .i64 pr, .slice abg lr.length cbg] 32)).heap.size ≤ w5.heap.size + 1 := by simp
  have hyu5 : w5.heap.size + 1 ≤ (w5.alloc (.cells #[.int .i64 pr, .slice abg lr.length cbg] 32)).heap.size := by simp
  replace B := B.step ba
  replace BW0 := Lib.hid (BW0.out.below ba)
  replace ow0 := ow0.below ba
  replace ox1 := ox1.below ba
  replace og0 := og0.below ba
  clear ba
  have BG0 : Hid (BoxGr (w5.alloc (.cells #[.int .i64 pr, .slice abg lr.length cbg] 32)) (w5.heap.size) pr abg lr.length cbg) := Lib.hid (BoxGr.at rfl)
  generalize (w5.alloc (.cells #[.int .i64 pr, .slice abg lr.length cbg] 32)) = u5 at *
  obtain ⟨zBW0, fBW00, fBW01⟩ := BW0.out
  obtain ⟨zBG0, fBG00, fBG01⟩ := BG0.out
  refine (eqGraph_h _ _ _ _ og0.is ow0.is (by omega)).mono ?_
  rintro e w6 ⟨rfl, b⟩
  have hzw6 := b.size
  clear zBW0 fBW00 fBW01 zBG0 fBG00 fBG01
  replace B := B.step b
  replace BW0 := Lib.hid (BW0.out.below b)
  replace BG0 := Lib.hid (BG0.out.below b)
  replace ow0 := ow0.below b
  replace ox1 := ox1.below b
  replace og0 := og0.below b
  clear b
  obtain ⟨zBW0, fBW00, fBW01⟩ := BW0.out
  obtain ⟨zBG0, fBG00, fBG01⟩ := BG0.out
  go_wp2_with fail
  refine (toSteps_h _ _ x1 (R1.out.below B) hsm1).mono ?_
  rintro e w7 ⟨yz1, rfl, o0, b⟩
  have hzw7 := b.size
  clear zBW0 fBW00 fBW01 zBG0 fBG00 fBG01
  replace B := B.step b
  replace BW0 := Lib.hid (BW0.out.below b)
  replace BG0 := Lib.hid (BG0.out.below b)
  replace ow0 := ow0.below b
  replace ox1 := ox1.below b
  replace og0 := og0.below b
  clear b
  have oz1 := o0.h
  clear o0
  obtain ⟨zBW0, fBW00, fBW01⟩ := BW0.out
  obtain ⟨zBG0, fBG00, fBG01⟩ := BG0.out
  go_wp2_with fail
  refine (eqSteps_h _ _ _ _ ox1.is oz1.is (by omega)).mono ?_
  rintro e w8 ⟨rfl, b⟩
  have hzw8 := b.size
  clear zBW0 fBW00 fBW01 zBG0 fBG00 fBG01
  replace B := B.step b
  replace BW0 := Lib.hid (BW0.out.below b)
  replace BG0 := Lib.hid (BG0.out.below b)
  replace ow0 := ow0.below b
  replace ox1 := ox1.below b
  replace og0 := og0.below b
  replace oz1 := oz1.below b
  clear b
  obtain ⟨zBW0, fBW00, fBW01⟩ := BW0.out
  obtain ⟨zBG0, fBG00, fBG01⟩ := BG0.out
  clear oz1
  go_wp2_with fail
  refine (markSteps_h _ _ _ _ _ _ ox1 (by omega) (by omega) (by omega)).mono ?_
  rintro e w9 ⟨rfl, o0, kk⟩
  have hzw9 := kk.size
  clear zBW0 fBW00 fBW01 zBG0 fBG00 fBG01
  replace B := B.trans (kk.blk (by omega) (by omega))
  replace BW0 := Lib.hid (BW0.out.kept kk fun h3 => by have h4 := h3.1; have h5 := h3.2; omega)
  replace BG0 := Lib.hid (BG0.out.kept kk fun h3 => by have h4 := h3.1; have h5 := h3.2; omega)
  replace ow0 := ow0.kept kk fun k h1 h2 h3 => by have h4 := h3.1; have h5 := h3.2; omega
  replace og0 := og0.kept kk fun k h1 h2 h3 => by have h4 := h3.1; have h5 := h3.2; omega
  clear kk ox1
  have ox1 := o0
  clear o0
  obtain ⟨zBW0, fBW00, fBW01⟩ := BW0.out
  obtain ⟨zBG0, fBG00, fBG01⟩ := BG0.out
  go_wp2_with fail
  refine (eqGraph_h _ _ _ _ og0.is ow0.is (by omega)).mono ?_
  rintro e w10 ⟨rfl, b⟩
  have hzw10 := b.size
  clear zBW0 fBW00 fBW01 zBG0 fBG00 fBG01
  replace B := B.step b
  replace BW0 := Lib.hid (BW0.out.below b)
  replace BG0 := Lib.hid (BG0.out.below b)
  replace ow0 := ow0.below b
  replace ox1 := ox1.below b
  replace og0 := og0.below b
  clear b
  obtain ⟨zBW0, fBW00, fBW01⟩ := BW0.out
  obtain ⟨zBG0, fBG00, fBG01⟩ := BG0.out
  go_wp2_with fail
  refine (markGraph_h _ _ _ _ _ _ og0 (by omega) (by omega) (by omega)).mono ?_
  rintro e w11 ⟨rfl, o0, kk⟩
  have hzw11 := kk.size
  clear zBW0 fBW00 fBW01 zBG0 fBG00 fBG01
  replace B := B.trans (kk.blk (by omega) (by omega))
  replace BW0 := Lib.hid (BW0.out.kept kk fun h3 => by have h4 := h3.1; have h5 := h3.2; omega)
  replace BG0 := Lib.hid (BG0.out.kept kk fun h3 => by have h4 := h3.1; have h5 := h3.2; omega)
  replace ow0 := ow0.kept kk fun k h1 h2 h3 => by have h4 := h3.1; have h5 := h3.2; omega
  replace ox1 := ox1.kept kk fun k h1 h2 h3 => by have h4 := h3.1; have h5 := h3.2; omega
  clear kk og0
  have og0 := o0
  clear o0
  obtain ⟨zBW0, fBW00, fBW01⟩ := BW0.out
  obtain ⟨zBG0, fBG00, fBG01⟩ := BG0.out
  go_wp2_with fail
  refine (heldGraph_h _ _ _ _ og0.is (by omega) (by omega) (by omega)).mono ?_
  rintro e w12 ⟨rfl, b⟩
  have hzw12 := b.size
  clear zBW0 fBW00 fBW01 zBG0 fBG00 fBG01
  replace B := B.step b
  replace BW0 := Lib.hid (BW0.out.below b)
  replace BG0 := Lib.hid (BG0.out.below b)
  replace ow0 := ow0.below b
  replace ox1 := ox1.below b
  replace og0 := og0.below b
  clear b
  obtain ⟨zBW0, fBW00, fBW01⟩ := BW0.out
  obtain ⟨zBG0, fBG00, fBG01⟩ := BG0.out
  go_wp2_with fail
  refine (toSteps_h _ _ x1 (R1.out.below B) hsm1).mono ?_
  rintro e w13 ⟨ym1, rfl, o0, b⟩
  have hzw13 := b.size
  clear zBW0 fBW00 fBW01 zBG0 fBG00 fBG01
  replace B := B.step b
  replace BW0 := Lib.hid (BW0.out.below b)
  replace BG0 := Lib.hid (BG0.out.below b)
  replace ow0 := ow0.below b
  replace ox1 := ox1.below b
  replace og0 := og0.below b
  clear b
  have om1 := o0.h
  clear o0
  obtain ⟨zBW0, fBW00, fBW01⟩ := BW0.out
  obtain ⟨zBG0, fBG00, fBG01⟩ := BG0.out
  go_wp2_with fail
  refine (impl_BuildSteps _ _ _ x1 om1.is hsm1).mono ?_
  rintro e w14 ⟨yx, rfl, o0, b⟩
  rw [← HOKR.out]
  rw [← HRES.out] at o0
  obtain ⟨vb, ⟨abh, cbh, rfl, rfl⟩, ob⟩ := o0.h
  clear o0
  have hzw14 := b.size
  clear zBW0 fBW00 fBW01 zBG0 fBG00 fBG01
  replace B := B.step b
  replace BW0 := Lib.hid (BW0.out.below b)
  replace BG0 := Lib.hid (BG0.out.below b)
  replace ow0 := ow0.below b
  replace ox1 := ox1.below b
  replace og0 := og0.below b
  replace om1 := om1.below b
  clear b
  have oh0 : HGraph w14 w13.heap.size w14.heap.size (.agg #[.int .i64 pr, .slice abh lr.length cbh]) (pr, lr) := ⟨_, ⟨abh, cbh, rfl, rfl⟩, ob⟩
  clear ob
  dsimp only
  obtain ⟨zBW0, fBW00, fBW01⟩ := BW0.out
  obtain ⟨zBG0, fBG00, fBG01⟩ := BG0.out
  clear om1
  go_wp2_with fail
  clear zBW0 fBW00 fBW01 zBG0 fBG00 fBG01
  have ba : Below w14.heap.size w14 (w14.alloc (.cells #[.int .i64 pr, .slice abh lr.length cbh] 32)) := (Below.refl _ _).alloc (Nat.le_refl _) _
  have hzu14 : (w14.alloc (.cells #[.int .i64 pr, .slice abh lr.length cbh] 32)).heap.size ≤ w14.heap.size + 1 := by simp
  have hyu14 : w14.heap.size + 1 ≤ (w14.alloc (.cells #[.int .i64 pr, .slice abh lr.length cbh] 32)).heap.size := by simp
  replace B := B.step ba
  replace BW0 := Lib.hid (BW0.out.below ba)
  replace BG0 := Lib.hid (BG0.out.below ba)
  replace ow0 := ow0.below ba
  replace ox1 := ox1.below ba
  replace og0 := og0.below ba
  replace oh0 := oh0.below ba
  clear ba
  have BH0 : Hid (BoxGr (w14.alloc (.cells #[.int .i64 pr, .slice abh lr.length cbh] 32)) (w14.heap.size) pr abh lr.length cbh) := Lib.hid (BoxGr.at rfl)
  generalize (w14.alloc (.cells #[.int .i64 pr, .slice abh lr.length cbh] 32)) = u14 at *
  obtain ⟨zBW0, fBW00, fBW01⟩ := BW0.out
  obtain ⟨zBG0, fBG00, fBG01⟩ := BG0.out
  obtain ⟨zBH0, fBH00, fBH01⟩ := BH0.out
  refine (eqGraph_h _ _ _ _ oh0.is ow0.is (by omega)).mono ?_
  rintro e w15 ⟨rfl, b⟩
  have hzw15 := b.size
  clear zBW0 fBW00 fBW01 zBG0 fBG00 fBG01 zBH0 fBH00 fBH01
  replace B := B.step b
  replace BW0 := Lib.hid (BW0.out.below b)
  replace BG0 := Lib.hid (BG0.out.below b)
  replace BH0 := Lib.hid (BH0.out.below b)
  replace ow0 := ow0.below b
  replace ox1 := ox1.below b
  replace og0 := og0.below b
  replace oh0 := oh0.below b
  clear b
  obtain ⟨zBW0, fBW00, fBW01⟩ := BW0.out
  obtain ⟨zBG0, fBG00, fBG01⟩ := BG0.out
  obtain ⟨zBH0, fBH00, fBH01⟩ := BH0.out
  go_wp2_with fail
  refine (heldGraph_h _ _ _ _ og0.is (by omega) (by omega) (by omega)).mono ?_
  rintro e w16 ⟨rfl, b⟩
  have hzw16 := b.size
  clear zBW0 fBW00 fBW01 zBG0 fBG00 fBG01 zBH0 fBH00 fBH01
  replace B := B.step b
  replace BW0 := Lib.hid (BW0.out.below b)
  replace BG0 := Lib.hid (BG0.out.below b)
  replace BH0 := Lib.hid (BH0.out.below b)
  replace ow0 := ow0.below b
  replace ox1 := ox1.below b
  replace og0 := og0.below b
  replace oh0 := oh0.below b
  clear b
  obtain ⟨zBW0, fBW00, fBW01⟩ := BW0.out
  obtain ⟨zBG0, fBG00, fBG01⟩ := BG0.out
  obtain ⟨zBH0, fBH00, fBH01⟩ := BH0.out
  go_wp2_with fail
  go_ret
  exact ⟨rfl, B⟩
end Go.Proofs.Ytmfeabfbhaiaeaa
