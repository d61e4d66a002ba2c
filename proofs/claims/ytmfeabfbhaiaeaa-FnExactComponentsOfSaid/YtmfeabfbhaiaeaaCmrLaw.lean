/- The law FnExactComponentsOf returns true: the walk, written by lawwalk2.py. No condition. -/
import Derived.Test.YtmfeabfbhaiaeaaCmq
import Derived.Test.YtmfeabfbhaiaeaaFwH
import Derived.Test.YtmfeabfbhaiaeaaFwM
import Derived.Test.YtmfeabfbhaiaeaaRdFw
import Derived.Test.YtmfeabfbhaiaeaaBox
import Derived.Test.YtmfeabfbhaiaeaaIntss
import Derived.Test.YtmfeabfbhaiaeaaRows0
import Derived.Test.YtmfeabfbhaiaeaaRdIntss
import Derived.Deep.RegionHeld3
namespace Go.Proofs.Ytmfeabfbhaiaeaa
open Go.RowKit
set_option maxRecDepth 100000
set_option linter.unusedVariables false
set_option linter.unusedSimpArgs false

set_option maxHeartbeats 8000000 in
theorem walkFnExactComponentsOf (W : World) (v0 : Value) (x0 : GraphT) (r0 : IsGraph W v0 x0) (ok0 : OkGraph x0) :
    Calls Try.prog 4 #[v0] W fun e w' => e = .returned (.bool true) ∧ Below W.heap.size W w' := by
  obtain ⟨p0, l0⟩ := x0
  obtain ⟨a0, cap0, rfl, hi0⟩ := r0
  dsimp only at hi0
  have R0 : Hid (IsGraph W (.agg #[.int .i64 p0, .slice a0 l0.length cap0]) (p0, l0)) := Lib.hid ⟨a0, cap0, rfl, hi0⟩
  clear hi0
  dsimp only
  have BP0 : Hid (BoxGr (W.alloc (.cells #[.int .i64 p0, .slice a0 l0.length cap0] 24)) (W.heap.size) p0 a0 l0.length cap0) := Lib.hid (BoxGr.at (by simp))
  have BB : Below W.heap.size W (W.alloc (.cells #[.int .i64 p0, .slice a0 l0.length cap0] 24)) := (Below.refl W.heap.size W).alloc (by simp <;> omega) _
  have hzu : (W.alloc (.cells #[.int .i64 p0, .slice a0 l0.length cap0] 24)).heap.size = W.heap.size + 1 := by simp
  by_cases hbig0 : 1048576 < szGraph (p0, l0)
  · go_enter Try.func4, Try.ntmps4
    have B := BB
    go_wp2_with fail
    generalize (W.alloc (.cells #[.int .i64 p0, .slice a0 l0.length cap0] 24)) = u0 at *
    obtain ⟨zBP0, fBP00, fBP01⟩ := BP0.out
    refine (szGraph_h _ _ (p0, l0) (1048576) (R0.out.below B) ok0 (by omega) (by omega)).mono ?_
    rintro e w1 ⟨rfl, b⟩
    have hzw1 := b.size
    clear zBP0 fBP00 fBP01
    replace B := B.step b
    replace BP0 := Lib.hid (BP0.out.below b)
    clear b
    obtain ⟨zBP0, fBP00, fBP01⟩ := BP0.out
    rw [szRes_pos (by omega)]
    go_wp2_with fail
    go_ret
    exact ⟨rfl, B⟩
  have hsm0 : szGraph (p0, l0) ≤ 1048576 := by omega
  have hcnt0 := cntGraph_le (p0, l0)
  have hres := cmpO_sz (p0, l0)
  have hres2 := cntIntss_le (cmpO (p0, l0))
  go_enter Try.func4, Try.ntmps4
  have B := BB
  go_wp2_with fail
  generalize (W.alloc (.cells #[.int .i64 p0, .slice a0 l0.length cap0] 24)) = u0 at *
  obtain ⟨zBP0, fBP00, fBP01⟩ := BP0.out
  refine (szGraph_h _ _ (p0, l0) (1048576) (R0.out.below B) ok0 (by omega) (by omega)).mono ?_
  rintro e w1 ⟨rfl, b⟩
  have hzw1 := b.size
  clear zBP0 fBP00 fBP01
  replace B := B.step b
  replace BP0 := Lib.hid (BP0.out.below b)
  clear b
  obtain ⟨zBP0, fBP00, fBP01⟩ := BP0.out
  rw [szRes_neg (by omega)]
  go_wp2_with fail
  refine (toGraph_h _ _ (p0, l0) (R0.out.below B) hsm0).mono ?_
  rintro e w2 ⟨ya0, rfl, o0, b⟩
  have hzw2 := b.size
  clear zBP0 fBP00 fBP01
  replace B := B.step b
  replace BP0 := Lib.hid (BP0.out.below b)
  clear b
  have oa0 := o0.h
  clear o0
  obtain ⟨zBP0, fBP00, fBP01⟩ := BP0.out
  go_wp2_with fail
  refine (spec_ComponentsOf _ _ (p0, l0) oa0.is hsm0).mono ?_
  rintro e w3 ⟨yw0, rfl, o0, b⟩
  have hzw3 := b.size
  clear zBP0 fBP00 fBP01
  replace B := B.step b
  replace BP0 := Lib.hid (BP0.out.below b)
  replace oa0 := oa0.below b
  clear b
  have ow0 := o0.h
  clear o0
  obtain ⟨zBP0, fBP00, fBP01⟩ := BP0.out
  clear oa0
  go_wp2_with fail
  refine (toGraph_h _ _ (p0, l0) (R0.out.below B) hsm0).mono ?_
  rintro e w4 ⟨yx, rfl, o0, b⟩
  obtain ⟨vb, ⟨ab0, cb0, rfl, rfl⟩, ob⟩ := o0.h
  clear o0
  have hzw4 := b.size
  clear zBP0 fBP00 fBP01
  replace B := B.step b
  replace BP0 := Lib.hid (BP0.out.below b)
  replace ow0 := ow0.below b
  clear b
  have ox0 : HGraph w4 w3.heap.size w4.heap.size (.agg #[.int .i64 p0, .slice ab0 l0.length cb0]) (p0, l0) := ⟨_, ⟨ab0, cb0, rfl, rfl⟩, ob⟩
  clear ob
  dsimp only
  obtain ⟨zBP0, fBP00, fBP01⟩ := BP0.out
  go_wp2_with fail
  clear zBP0 fBP00 fBP01
  have ba : Below w4.heap.size w4 (w4.alloc (.cells #[.int .i64 p0, .slice ab0 l0.length cb0] 32)) := (Below.refl _ _).alloc (Nat.le_refl _) _
  have hzu4 : (w4.alloc (.cells #[.int .i64 p0, .slice ab0 l0.length cb0] 32)).heap.size ≤ w4.heap.size + 1 := by simp
  have hyu4 : w4.heap.size + 1 ≤ (w4.alloc (.cells #[.int .i64 p0, .slice ab0 l0.length cb0] 32)).heap.size := by simp
  replace B := B.step ba
  replace BP0 := Lib.hid (BP0.out.below ba)
  replace ow0 := ow0.below ba
  replace ox0 := ox0.below ba
  clear ba
  have BX0 : Hid (BoxGr (w4.alloc (.cells #[.int .i64 p0, .slice ab0 l0.length cb0] 32)) (w4.heap.size) p0 ab0 l0.length cb0) := Lib.hid (BoxGr.at rfl)
  generalize (w4.alloc (.cells #[.int .i64 p0, .slice ab0 l0.length cb0] 32)) = u4 at *
  obtain ⟨zBP0, fBP00, fBP01⟩ := BP0.out
  obtain ⟨zBX0, fBX00, fBX01⟩ := BX0.out
  refine (impl_ComponentsOf _ _ (p0, l0) ox0.is hsm0).mono ?_
  rintro e w5 ⟨yg0, rfl, o0, b⟩
  have hzw5 := b.size
  clear zBP0 fBP00 fBP01 zBX0 fBX00 fBX01
  replace B := B.step b
  replace BP0 := Lib.hid (BP0.out.below b)
  replace BX0 := Lib.hid (BX0.out.below b)
  replace ow0 := ow0.below b
  replace ox0 := ox0.below b
  clear b
  have og0 := o0.h
  clear o0
  obtain ⟨zBP0, fBP00, fBP01⟩ := BP0.out
  obtain ⟨zBX0, fBX00, fBX01⟩ := BX0.out
  go_wp2_with fail
  refine (eqIntss_h _ _ _ _ og0.is ow0.is (by omega)).mono ?_
  rintro e w6 ⟨rfl, b⟩
  have hzw6 := b.size
  clear zBP0 fBP00 fBP01 zBX0 fBX00 fBX01
  replace B := B.step b
  replace BP0 := Lib.hid (BP0.out.below b)
  replace BX0 := Lib.hid (BX0.out.below b)
  replace ow0 := ow0.below b
  replace ox0 := ox0.below b
  replace og0 := og0.below b
  clear b
  obtain ⟨zBP0, fBP00, fBP01⟩ := BP0.out
  obtain ⟨zBX0, fBX00, fBX01⟩ := BX0.out
  go_wp2_with fail
  have bd : Below w6.heap.size w6 w6.drew := (Below.refl _ _).drew
  have hzd6 := bd.size
  clear zBP0 fBP00 fBP01 zBX0 fBX00 fBX01
  replace B := B.step bd
  replace BP0 := Lib.hid (BP0.out.below bd)
  replace BX0 := Lib.hid (BX0.out.below bd)
  replace ow0 := ow0.below bd
  replace ox0 := ox0.below bd
  replace og0 := og0.below bd
  clear bd
  have tk1 := True.intro
  have tk2 := True.intro
  go_region_held3 (fun w' => w'.cell? ⟨W.heap.size, 0, none⟩ = some (.int .i64 p0) ∧ w'.cell? ⟨W.heap.size, 1, none⟩ = some (.slice a0 l0.length cap0) ∧ w'.cell? ⟨w4.heap.size, 0, none⟩ = some (.int .i64 p0) ∧ w'.cell? ⟨w4.heap.size, 1, none⟩ = some (.slice ab0 l0.length cb0))
    (with_reducible exact ⟨BP0.out.c0, BP0.out.c1, BX0.out.c0, BX0.out.c1⟩)
    (first
      | (clear tk1; go_at_call 15; refine (toGraph_h _ _ (p0, l0) (R0.out.below B) hsm0).mono ?_; rintro e w7 ⟨yz0, rfl, o0, b⟩; have hzw7 := b.size; replace B := B.step b; replace BP0 := Lib.hid (BP0.out.below b); replace BX0 := Lib.hid (BX0.out.below b); replace ow0 := ow0.below b; replace ox0 := ox0.below b; replace og0 := og0.below b; clear b; have oz0 := o0.h; clear o0)
      | (clear tk2; go_at_call 18; refine (eqGraph_h _ _ _ _ ox0.is oz0.is (by omega)).mono ?_; rintro e w8 ⟨rfl, b⟩; have hzw8 := b.size; replace B := B.step b; replace BP0 := Lib.hid (BP0.out.below b); replace BX0 := Lib.hid (BX0.out.below b); replace ow0 := ow0.below b; replace ox0 := ox0.below b; replace og0 := og0.below b; replace oz0 := oz0.below b; clear b))
  obtain ⟨zBP0, fBP00, fBP01⟩ := BP0.out
  obtain ⟨zBX0, fBX00, fBX01⟩ := BX0.out
  clear oz0
  go_wp2_with fail
  refine (markGraph_h _ _ _ _ _ _ ox0 (by omega) (by omega) (by omega)).mono ?_
  rintro e w9 ⟨rfl, o0, kk⟩
  have hzw9 := kk.size
  clear zBP0 fBP00 fBP01 zBX0 fBX00 fBX01
  replace B := B.trans (kk.blk (by omega) (by omega))
  replace BP0 := Lib.hid (BP0.out.kept kk fun h3 => by have h4 := h3.1; have h5 := h3.2; omega)
  replace BX0 := Lib.hid (BX0.out.kept kk fun h3 => by have h4 := h3.1; have h5 := h3.2; omega)
  replace ow0 := ow0.kept kk fun k h1 h2 h3 => by have h4 := h3.1; have h5 := h3.2; omega
  replace og0 := og0.kept kk fun k h1 h2 h3 => by have h4 := h3.1; have h5 := h3.2; omega
  clear kk ox0
  have ox0 := o0
  clear o0
  obtain ⟨zBP0, fBP00, fBP01⟩ := BP0.out
  obtain ⟨zBX0, fBX00, fBX01⟩ := BX0.out
  go_wp2_with fail
  refine (eqIntss_h _ _ _ _ og0.is ow0.is (by omega)).mono ?_
  rintro e w10 ⟨rfl, b⟩
  have hzw10 := b.size
  clear zBP0 fBP00 fBP01 zBX0 fBX00 fBX01
  replace B := B.step b
  replace BP0 := Lib.hid (BP0.out.below b)
  replace BX0 := Lib.hid (BX0.out.below b)
  replace ow0 := ow0.below b
  replace ox0 := ox0.below b
  replace og0 := og0.below b
  clear b
  obtain ⟨zBP0, fBP00, fBP01⟩ := BP0.out
  obtain ⟨zBX0, fBX00, fBX01⟩ := BX0.out
  go_wp2_with fail
  refine (markIntss_h _ _ _ _ _ _ og0 (by omega) (by omega) (by omega)).mono ?_
  rintro e w11 ⟨rfl, o0, kk⟩
  have hzw11 := kk.size
  clear zBP0 fBP00 fBP01 zBX0 fBX00 fBX01
  replace B := B.trans (kk.blk (by omega) (by omega))
  replace BP0 := Lib.hid (BP0.out.kept kk fun h3 => by have h4 := h3.1; have h5 := h3.2; omega)
  replace BX0 := Lib.hid (BX0.out.kept kk fun h3 => by have h4 := h3.1; have h5 := h3.2; omega)
  replace ow0 := ow0.kept kk fun k h1 h2 h3 => by have h4 := h3.1; have h5 := h3.2; omega
  replace ox0 := ox0.kept kk fun k h1 h2 h3 => by have h4 := h3.1; have h5 := h3.2; omega
  clear kk og0
  have og0 := o0
  clear o0
  obtain ⟨zBP0, fBP00, fBP01⟩ := BP0.out
  obtain ⟨zBX0, fBX00, fBX01⟩ := BX0.out
  go_wp2_with fail
  refine (heldIntss_h _ _ _ _ og0.is (by omega) (by omega) (by omega)).mono ?_
  rintro e w12 ⟨rfl, b⟩
  have hzw12 := b.size
  clear zBP0 fBP00 fBP01 zBX0 fBX00 fBX01
  replace B := B.step b
  replace BP0 := Lib.hid (BP0.out.below b)
  replace BX0 := Lib.hid (BX0.out.below b)
  replace ow0 := ow0.below b
  replace ox0 := ox0.below b
  replace og0 := og0.below b
  clear b
  obtain ⟨zBP0, fBP00, fBP01⟩ := BP0.out
  obtain ⟨zBX0, fBX00, fBX01⟩ := BX0.out
  go_wp2_with fail
  refine (toGraph_h _ _ (p0, l0) (R0.out.below B) hsm0).mono ?_
  rintro e w13 ⟨ym0, rfl, o0, b⟩
  have hzw13 := b.size
  clear zBP0 fBP00 fBP01 zBX0 fBX00 fBX01
  replace B := B.step b
  replace BP0 := Lib.hid (BP0.out.below b)
  replace BX0 := Lib.hid (BX0.out.below b)
  replace ow0 := ow0.below b
  replace ox0 := ox0.below b
  replace og0 := og0.below b
  clear b
  have om0 := o0.h
  clear o0
  obtain ⟨zBP0, fBP00, fBP01⟩ := BP0.out
  obtain ⟨zBX0, fBX00, fBX01⟩ := BX0.out
  go_wp2_with fail
  refine (impl_ComponentsOf _ _ (p0, l0) om0.is hsm0).mono ?_
  rintro e w14 ⟨yh0, rfl, o0, b⟩
  have hzw14 := b.size
  clear zBP0 fBP00 fBP01 zBX0 fBX00 fBX01
  replace B := B.step b
  replace BP0 := Lib.hid (BP0.out.below b)
  replace BX0 := Lib.hid (BX0.out.below b)
  replace ow0 := ow0.below b
  replace ox0 := ox0.below b
  replace og0 := og0.below b
  replace om0 := om0.below b
  clear b
  have oh0 := o0.h
  clear o0
  obtain ⟨zBP0, fBP00, fBP01⟩ := BP0.out
  obtain ⟨zBX0, fBX00, fBX01⟩ := BX0.out
  clear om0
  go_wp2_with fail
  refine (eqIntss_h _ _ _ _ oh0.is ow0.is (by omega)).mono ?_
  rintro e w15 ⟨rfl, b⟩
  have hzw15 := b.size
  clear zBP0 fBP00 fBP01 zBX0 fBX00 fBX01
  replace B := B.step b
  replace BP0 := Lib.hid (BP0.out.below b)
  replace BX0 := Lib.hid (BX0.out.below b)
  replace ow0 := ow0.below b
  replace ox0 := ox0.below b
  replace og0 := og0.below b
  replace oh0 := oh0.below b
  clear b
  obtain ⟨zBP0, fBP00, fBP01⟩ := BP0.out
  obtain ⟨zBX0, fBX00, fBX01⟩ := BX0.out
  go_wp2_with fail
  refine (heldIntss_h _ _ _ _ og0.is (by omega) (by omega) (by omega)).mono ?_
  rintro e w16 ⟨rfl, b⟩
  have hzw16 := b.size
  clear zBP0 fBP00 fBP01 zBX0 fBX00 fBX01
  replace B := B.step b
  replace BP0 := Lib.hid (BP0.out.below b)
  replace BX0 := Lib.hid (BX0.out.below b)
  replace ow0 := ow0.below b
  replace ox0 := ox0.below b
  replace og0 := og0.below b
  replace oh0 := oh0.below b
  clear b
  obtain ⟨zBP0, fBP00, fBP01⟩ := BP0.out
  obtain ⟨zBX0, fBX00, fBX01⟩ := BX0.out
  go_wp2_with fail
  go_ret
  exact ⟨rfl, B⟩
end Go.Proofs.Ytmfeabfbhaiaeaa
