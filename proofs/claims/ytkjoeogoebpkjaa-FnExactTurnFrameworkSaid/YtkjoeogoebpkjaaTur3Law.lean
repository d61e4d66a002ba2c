/- The law FnExactTurnFramework returns true: the walk, written by lawwalk2.py. No condition. -/
import Derived.Test.YtkjoeogoebpkjaaMir2
import Derived.Test.YtkjoeogoebpkjaaFwH
import Derived.Test.YtkjoeogoebpkjaaFwM
import Derived.Test.YtkjoeogoebpkjaaRdFw
import Derived.Test.YtkjoeogoebpkjaaBox
import Derived.Deep.RegionHeld3
namespace Go.Proofs.Ytkjoeogoebpkjaa
open Go.RowKit
set_option maxRecDepth 100000
set_option linter.unusedVariables false
set_option linter.unusedSimpArgs false

set_option maxHeartbeats 8000000 in
theorem walkFnExactTurnFramework (W : World) (v0 : Value) (x0 : FwT) (r0 : IsFw W v0 x0) (ok0 : OkFw x0) :
    Calls Try.prog 9 #[v0] W fun e w' => e = .returned (.bool true) ∧ Below W.heap.size W w' := by
  obtain ⟨p0, l0, q0⟩ := x0
  obtain ⟨a0, cap0, c0, capc0, rfl, hi0, hj0⟩ := r0
  dsimp only at hi0 hj0
  have R0 : Hid (IsFw W (.agg #[.int .i64 p0, .slice a0 l0.length cap0, .slice c0 q0.length capc0]) (p0, l0, q0)) := Lib.hid ⟨a0, cap0, c0, capc0, rfl, hi0, hj0⟩
  clear hi0 hj0
  dsimp only
  have BP0 : Hid (BoxFw (W.alloc (.cells #[.int .i64 p0, .slice a0 l0.length cap0, .slice c0 q0.length capc0] 32)) (W.heap.size) p0 a0 l0.length cap0 c0 q0.length capc0) := Lib.hid (BoxFw.at (by simp))
  have BB : Below W.heap.size W (W.alloc (.cells #[.int .i64 p0, .slice a0 l0.length cap0, .slice c0 q0.length capc0] 32)) := (Below.refl W.heap.size W).alloc (by simp <;> omega) _
  have hzu : (W.alloc (.cells #[.int .i64 p0, .slice a0 l0.length cap0, .slice c0 q0.length capc0] 32)).heap.size = W.heap.size + 1 := by simp
  by_cases hbig0 : 1048576 < szFw (p0, l0, q0)
  · go_enter Try.func9, Try.ntmps9
    have B := BB
    go_wp2_with fail
    generalize (W.alloc (.cells #[.int .i64 p0, .slice a0 l0.length cap0, .slice c0 q0.length capc0] 32)) = u0 at *
    obtain ⟨zBP0, fBP00, fBP01, fBP02⟩ := BP0.out
    refine (szFw_h _ _ (p0, l0, q0) (1048576) (R0.out.below B) ok0 (by omega) (by omega)).mono ?_
    rintro e w1 ⟨rfl, b⟩
    have hzw1 := b.size
    clear zBP0 fBP00 fBP01 fBP02
    replace B := B.step b
    replace BP0 := Lib.hid (BP0.out.below b)
    clear b
    obtain ⟨zBP0, fBP00, fBP01, fBP02⟩ := BP0.out
    rw [szRes_pos (by omega)]
    go_wp2_with fail
    go_ret
    exact ⟨rfl, B⟩
  have hsm0 : szFw (p0, l0, q0) ≤ 1048576 := by omega
  have hcnt0 := cntFw_le (p0, l0, q0)
  obtain ⟨⟨pr, lr, qr⟩, hR⟩ : ∃ R, R = movF turP (p0, l0, q0) := ⟨_, rfl⟩
  have hres : szFw (pr, lr, qr) ≤ 1048576 := Nat.le_trans (Nat.le_of_eq ((congrArg szFw hR).trans (movF_sz _ _))) hsm0
  have hcntr := cntFw_le (pr, lr, qr)
  have HRES := Lib.hid hR
  clear hR
  go_enter Try.func9, Try.ntmps9
  have B := BB
  go_wp2_with fail
  generalize (W.alloc (.cells #[.int .i64 p0, .slice a0 l0.length cap0, .slice c0 q0.length capc0] 32)) = u0 at *
  obtain ⟨zBP0, fBP00, fBP01, fBP02⟩ := BP0.out
  refine (szFw_h _ _ (p0, l0, q0) (1048576) (R0.out.below B) ok0 (by omega) (by omega)).mono ?_
  rintro e w1 ⟨rfl, b⟩
  have hzw1 := b.size
  clear zBP0 fBP00 fBP01 fBP02
  replace B := B.step b
  replace BP0 := Lib.hid (BP0.out.below b)
  clear b
  obtain ⟨zBP0, fBP00, fBP01, fBP02⟩ := BP0.out
  rw [szRes_neg (by omega)]
  go_wp2_with fail
  refine (toFw_h _ _ (p0, l0, q0) (R0.out.below B) hsm0).mono ?_
  rintro e w2 ⟨ya0, rfl, o0, b⟩
  have hzw2 := b.size
  clear zBP0 fBP00 fBP01 fBP02
  replace B := B.step b
  replace BP0 := Lib.hid (BP0.out.below b)
  clear b
  have oa0 := o0.h
  clear o0
  obtain ⟨zBP0, fBP00, fBP01, fBP02⟩ := BP0.out
  go_wp2_with fail
  refine (spec_TurnFramework _ _ (p0, l0, q0) oa0.is hsm0).mono ?_
  rintro e w3 ⟨yx, rfl, o0, b⟩
  rw [← HRES.out] at o0
  obtain ⟨vb, vp, ⟨abw, cbw, apw, cpw, rfl, rfl, rfl⟩, ob, op⟩ := o0.h
  clear o0
  have hzw3 := b.size
  clear zBP0 fBP00 fBP01 fBP02
  replace B := B.step b
  replace BP0 := Lib.hid (BP0.out.below b)
  replace oa0 := oa0.below b
  clear b
  have ow0 : HFw w3 w2.heap.size w3.heap.size (.agg #[.int .i64 pr, .slice abw lr.length cbw, .slice apw qr.length cpw]) (pr, lr, qr) := ⟨_, _, ⟨abw, cbw, apw, cpw, rfl, rfl, rfl⟩, ob, op⟩
  clear ob op
  dsimp only
  obtain ⟨zBP0, fBP00, fBP01, fBP02⟩ := BP0.out
  clear oa0
  go_wp2_with fail
  clear zBP0 fBP00 fBP01 fBP02
  have ba : Below w3.heap.size w3 (w3.alloc (.cells #[.int .i64 pr, .slice abw lr.length cbw, .slice apw qr.length cpw] 42)) := (Below.refl _ _).alloc (Nat.le_refl _) _
  have hzu3 : (w3.alloc (.cells #[.int .i64 pr, .slice abw lr.length cbw, .slice apw qr.length cpw] 42)).heap.size = w3.heap.size + 1 := by simp
  replace B := B.step ba
  replace BP0 := Lib.hid (BP0.out.below ba)
  replace ow0 := ow0.below ba
  clear ba
  have BW0 : Hid (BoxFw (w3.alloc (.cells #[.int .i64 pr, .slice abw lr.length cbw, .slice apw qr.length cpw] 42)) (w3.heap.size) pr abw lr.length cbw apw qr.length cpw) := Lib.hid (BoxFw.at rfl)
  generalize (w3.alloc (.cells #[.int .i64 pr, .slice abw lr.length cbw, .slice apw qr.length cpw] 42)) = u3 at *
  obtain ⟨zBP0, fBP00, fBP01, fBP02⟩ := BP0.out
  obtain ⟨zBW0, fBW00, fBW01, fBW02⟩ := BW0.out
  refine (toFw_h _ _ (p0, l0, q0) (R0.out.below B) hsm0).mono ?_
  rintro e w4 ⟨yx, rfl, o0, b⟩
  obtain ⟨vb, vp, ⟨ab0, cb0, ap0, cp0, rfl, rfl, rfl⟩, ob, op⟩ := o0.h
  clear o0
  have hzw4 := b.size
  clear zBP0 fBP00 fBP01 fBP02 zBW0 fBW00 fBW01 fBW02
  replace B := B.step b
  replace BP0 := Lib.hid (BP0.out.below b)
  replace BW0 := Lib.hid (BW0.out.below b)
  replace ow0 := ow0.below b
  clear b
  have ox0 : HFw w4 u3.heap.size w4.heap.size (.agg #[.int .i64 p0, .slice ab0 l0.length cb0, .slice ap0 q0.length cp0]) (p0, l0, q0) := ⟨_, _, ⟨ab0, cb0, ap0, cp0, rfl, rfl, rfl⟩, ob, op⟩
  clear ob op
  dsimp only
  obtain ⟨zBP0, fBP00, fBP01, fBP02⟩ := BP0.out
  obtain ⟨zBW0, fBW00, fBW01, fBW02⟩ := BW0.out
  go_wp2_with fail
  clear zBP0 fBP00 fBP01 fBP02 zBW0 fBW00 fBW01 fBW02
  have ba : Below w4.heap.size w4 (w4.alloc (.cells #[.int .i64 p0, .slice ab0 l0.length cb0, .slice ap0 q0.length cp0] 42)) := (Below.refl _ _).alloc (Nat.le_refl _) _
  have hzu4 : (w4.alloc (.cells #[.int .i64 p0, .slice ab0 l0.length cb0, .slice ap0 q0.length cp0] 42)).heap.size = w4.heap.size + 1 := by simp
  replace B := B.step ba
  replace BP0 := Lib.hid (BP0.out.below ba)
  replace BW0 := Lib.hid (BW0.out.below ba)
  replace ow0 := ow0.below ba
  replace ox0 := ox0.below ba
  clear ba
  have BX0 : Hid (BoxFw (w4.alloc (.cells #[.int .i64 p0, .slice ab0 l0.length cb0, .slice ap0 q0.length cp0] 42)) (w4.heap.size) p0 ab0 l0.length cb0 ap0 q0.length cp0) := Lib.hid (BoxFw.at rfl)
  generalize (w4.alloc (.cells #[.int .i64 p0, .slice ab0 l0.length cb0, .slice ap0 q0.length cp0] 42)) = u4 at *
  obtain ⟨zBP0, fBP00, fBP01, fBP02⟩ := BP0.out
  obtain ⟨zBW0, fBW00, fBW01, fBW02⟩ := BW0.out
  obtain ⟨zBX0, fBX00, fBX01, fBX02⟩ := BX0.out
  refine (impl_TurnFramework _ _ (p0, l0, q0) ox0.is hsm0).mono ?_
  rintro e w5 ⟨yx, rfl, o0, b⟩
  rw [← HRES.out] at o0
  obtain ⟨vb, vp, ⟨abg, cbg, apg, cpg, rfl, rfl, rfl⟩, ob, op⟩ := o0.h
  clear o0
  have hzw5 := b.size
  clear zBP0 fBP00 fBP01 fBP02 zBW0 fBW00 fBW01 fBW02 zBX0 fBX00 fBX01 fBX02
  replace B := B.step b
  replace BP0 := Lib.hid (BP0.out.below b)
  replace BW0 := Lib.hid (BW0.out.below b)
  replace BX0 := Lib.hid (BX0.out.below b)
  replace ow0 := ow0.below b
  replace ox0 := ox0.below b
  clear b
  have og0 : HFw w5 u4.heap.size w5.heap.size (.agg #[.int .i64 pr, .slice abg lr.length cbg, .slice apg qr.length cpg]) (pr, lr, qr) := ⟨_, _, ⟨abg, cbg, apg, cpg, rfl, rfl, rfl⟩, ob, op⟩
  clear ob op
  dsimp only
  obtain ⟨zBP0, fBP00, fBP01, fBP02⟩ := BP0.out
  obtain ⟨zBW0, fBW00, fBW01, fBW02⟩ := BW0.out
  obtain ⟨zBX0, fBX00, fBX01, fBX02⟩ := BX0.out
  go_wp2_with fail
  clear zBP0 fBP00 fBP01 fBP02 zBW0 fBW00 fBW01 fBW02 zBX0 fBX00 fBX01 fBX02
  have ba : Below w5.heap.size w5 (w5.alloc (.cells #[.int .i64 pr, .slice abg lr.length cbg, .slice apg qr.length cpg] 42)) := (Below.refl _ _).alloc (Nat.le_refl _) _
  have hzu5 : (w5.alloc (.cells #[.int .i64 pr, .slice abg lr.length cbg, .slice apg qr.length cpg] 42)).heap.size = w5.heap.size + 1 := by simp
  replace B := B.step ba
  replace BP0 := Lib.hid (BP0.out.below ba)
  replace BW0 := Lib.hid (BW0.out.below ba)
  replace BX0 := Lib.hid (BX0.out.below ba)
  replace ow0 := ow0.below ba
  replace ox0 := ox0.below ba
  replace og0 := og0.below ba
  clear ba
  have BG0 : Hid (BoxFw (w5.alloc (.cells #[.int .i64 pr, .slice abg lr.length cbg, .slice apg qr.length cpg] 42)) (w5.heap.size) pr abg lr.length cbg apg qr.length cpg) := Lib.hid (BoxFw.at rfl)
  generalize (w5.alloc (.cells #[.int .i64 pr, .slice abg lr.length cbg, .slice apg qr.length cpg] 42)) = u5 at *
  obtain ⟨zBP0, fBP00, fBP01, fBP02⟩ := BP0.out
  obtain ⟨zBW0, fBW00, fBW01, fBW02⟩ := BW0.out
  obtain ⟨zBX0, fBX00, fBX01, fBX02⟩ := BX0.out
  obtain ⟨zBG0, fBG00, fBG01, fBG02⟩ := BG0.out
  refine (eqFw_h _ _ _ _ og0.is ow0.is (by omega)).mono ?_
  rintro e w6 ⟨rfl, b⟩
  have hzw6 := b.size
  clear zBP0 fBP00 fBP01 fBP02 zBW0 fBW00 fBW01 fBW02 zBX0 fBX00 fBX01 fBX02 zBG0 fBG00 fBG01 fBG02
  replace B := B.step b
  replace BP0 := Lib.hid (BP0.out.below b)
  replace BW0 := Lib.hid (BW0.out.below b)
  replace BX0 := Lib.hid (BX0.out.below b)
  replace BG0 := Lib.hid (BG0.out.below b)
  replace ow0 := ow0.below b
  replace ox0 := ox0.below b
  replace og0 := og0.below b
  clear b
  obtain ⟨zBP0, fBP00, fBP01, fBP02⟩ := BP0.out
  obtain ⟨zBW0, fBW00, fBW01, fBW02⟩ := BW0.out
  obtain ⟨zBX0, fBX00, fBX01, fBX02⟩ := BX0.out
  obtain ⟨zBG0, fBG00, fBG01, fBG02⟩ := BG0.out
  go_wp2_with fail
  have bd : Below w6.heap.size w6 w6.drew := (Below.refl _ _).drew
  have hzd6 := bd.size
  clear zBP0 fBP00 fBP01 fBP02 zBW0 fBW00 fBW01 fBW02 zBX0 fBX00 fBX01 fBX02 zBG0 fBG00 fBG01 fBG02
  replace B := B.step bd
  replace BP0 := Lib.hid (BP0.out.below bd)
  replace BW0 := Lib.hid (BW0.out.below bd)
  replace BX0 := Lib.hid (BX0.out.below bd)
  replace BG0 := Lib.hid (BG0.out.below bd)
  replace ow0 := ow0.below bd
  replace ox0 := ox0.below bd
  replace og0 := og0.below bd
  clear bd
  have tk1 := True.intro
  have tk2 := True.intro
  go_region_held3 (fun w' => w'.cell? ⟨W.heap.size, 0, none⟩ = some (.int .i64 p0) ∧ w'.cell? ⟨W.heap.size, 1, none⟩ = some (.slice a0 l0.length cap0) ∧ w'.cell? ⟨W.heap.size, 2, none⟩ = some (.slice c0 q0.length capc0) ∧ w'.cell? ⟨w4.heap.size, 0, none⟩ = some (.int .i64 p0) ∧ w'.cell? ⟨w4.heap.size, 1, none⟩ = some (.slice ab0 l0.length cb0) ∧ w'.cell? ⟨w4.heap.size, 2, none⟩ = some (.slice ap0 q0.length cp0))
    (with_reducible exact ⟨BP0.out.c0, BP0.out.c1, BP0.out.c2, BX0.out.c0, BX0.out.c1, BX0.out.c2⟩)
    (first
      | (clear tk1; go_at_call 24; refine (toFw_h _ _ (p0, l0, q0) (R0.out.below B) hsm0).mono ?_; rintro e w7 ⟨yz0, rfl, o0, b⟩; have hzw7 := b.size; replace B := B.step b; replace BP0 := Lib.hid (BP0.out.below b); replace BW0 := Lib.hid (BW0.out.below b); replace BX0 := Lib.hid (BX0.out.below b); replace BG0 := Lib.hid (BG0.out.below b); replace ow0 := ow0.below b; replace ox0 := ox0.below b; replace og0 := og0.below b; clear b; have oz0 := o0.h; clear o0)
      | (clear tk2; go_at_call 27; refine (eqFw_h _ _ _ _ ox0.is oz0.is (by omega)).mono ?_; rintro e w8 ⟨rfl, b⟩; have hzw8 := b.size; replace B := B.step b; replace BP0 := Lib.hid (BP0.out.below b); replace BW0 := Lib.hid (BW0.out.below b); replace BX0 := Lib.hid (BX0.out.below b); replace BG0 := Lib.hid (BG0.out.below b); replace ow0 := ow0.below b; replace ox0 := ox0.below b; replace og0 := og0.below b; replace oz0 := oz0.below b; clear b))
  obtain ⟨zBP0, fBP00, fBP01, fBP02⟩ := BP0.out
  obtain ⟨zBW0, fBW00, fBW01, fBW02⟩ := BW0.out
  obtain ⟨zBX0, fBX00, fBX01, fBX02⟩ := BX0.out
  obtain ⟨zBG0, fBG00, fBG01, fBG02⟩ := BG0.out
  clear oz0
  go_wp2_with fail
  refine (markFw_h _ _ _ _ _ _ ox0 (by omega) (by omega) (by omega)).mono ?_
  rintro e w9 ⟨rfl, o0, kk⟩
  have hzw9 := kk.size
  clear zBP0 fBP00 fBP01 fBP02 zBW0 fBW00 fBW01 fBW02 zBX0 fBX00 fBX01 fBX02 zBG0 fBG00 fBG01 fBG02
  replace B := B.trans (kk.blk (by omega) (by omega))
  replace BP0 := Lib.hid (BP0.out.kept kk fun h3 => by have h4 := h3.1; have h5 := h3.2; omega)
  replace BW0 := Lib.hid (BW0.out.kept kk fun h3 => by have h4 := h3.1; have h5 := h3.2; omega)
  replace BX0 := Lib.hid (BX0.out.kept kk fun h3 => by have h4 := h3.1; have h5 := h3.2; omega)
  replace BG0 := Lib.hid (BG0.out.kept kk fun h3 => by have h4 := h3.1; have h5 := h3.2; omega)
  replace ow0 := ow0.kept kk fun k h1 h2 h3 => by have h4 := h3.1; have h5 := h3.2; omega
  replace og0 := og0.kept kk fun k h1 h2 h3 => by have h4 := h3.1; have h5 := h3.2; omega
  clear kk ox0
  have ox0 := o0
  clear o0
  obtain ⟨zBP0, fBP00, fBP01, fBP02⟩ := BP0.out
  obtain ⟨zBW0, fBW00, fBW01, fBW02⟩ := BW0.out
  obtain ⟨zBX0, fBX00, fBX01, fBX02⟩ := BX0.out
  obtain ⟨zBG0, fBG00, fBG01, fBG02⟩ := BG0.out
  go_wp2_with fail
  refine (eqFw_h _ _ _ _ og0.is ow0.is (by omega)).mono ?_
  rintro e w10 ⟨rfl, b⟩
  have hzw10 := b.size
  clear zBP0 fBP00 fBP01 fBP02 zBW0 fBW00 fBW01 fBW02 zBX0 fBX00 fBX01 fBX02 zBG0 fBG00 fBG01 fBG02
  replace B := B.step b
  replace BP0 := Lib.hid (BP0.out.below b)
  replace BW0 := Lib.hid (BW0.out.below b)
  replace BX0 := Lib.hid (BX0.out.below b)
  replace BG0 := Lib.hid (BG0.out.below b)
  replace ow0 := ow0.below b
  replace ox0 := ox0.below b
  replace og0 := og0.below b
  clear b
  obtain ⟨zBP0, fBP00, fBP01, fBP02⟩ := BP0.out
  obtain ⟨zBW0, fBW00, fBW01, fBW02⟩ := BW0.out
  obtain ⟨zBX0, fBX00, fBX01, fBX02⟩ := BX0.out
  obtain ⟨zBG0, fBG00, fBG01, fBG02⟩ := BG0.out
  go_wp2_with fail
  refine (markFw_h _ _ _ _ _ _ og0 (by omega) (by omega) (by omega)).mono ?_
  rintro e w11 ⟨rfl, o0, kk⟩
  have hzw11 := kk.size
  clear zBP0 fBP00 fBP01 fBP02 zBW0 fBW00 fBW01 fBW02 zBX0 fBX00 fBX01 fBX02 zBG0 fBG00 fBG01 fBG02
  replace B := B.trans (kk.blk (by omega) (by omega))
  replace BP0 := Lib.hid (BP0.out.kept kk fun h3 => by have h4 := h3.1; have h5 := h3.2; omega)
  replace BW0 := Lib.hid (BW0.out.kept kk fun h3 => by have h4 := h3.1; have h5 := h3.2; omega)
  replace BX0 := Lib.hid (BX0.out.kept kk fun h3 => by have h4 := h3.1; have h5 := h3.2; omega)
  replace BG0 := Lib.hid (BG0.out.kept kk fun h3 => by have h4 := h3.1; have h5 := h3.2; omega)
  replace ow0 := ow0.kept kk fun k h1 h2 h3 => by have h4 := h3.1; have h5 := h3.2; omega
  replace ox0 := ox0.kept kk fun k h1 h2 h3 => by have h4 := h3.1; have h5 := h3.2; omega
  clear kk og0
  have og0 := o0
  clear o0
  obtain ⟨zBP0, fBP00, fBP01, fBP02⟩ := BP0.out
  obtain ⟨zBW0, fBW00, fBW01, fBW02⟩ := BW0.out
  obtain ⟨zBX0, fBX00, fBX01, fBX02⟩ := BX0.out
  obtain ⟨zBG0, fBG00, fBG01, fBG02⟩ := BG0.out
  go_wp2_with fail
  refine (heldFw_h _ _ _ _ og0.is (by omega) (by omega) (by omega)).mono ?_
  rintro e w12 ⟨rfl, b⟩
  have hzw12 := b.size
  clear zBP0 fBP00 fBP01 fBP02 zBW0 fBW00 fBW01 fBW02 zBX0 fBX00 fBX01 fBX02 zBG0 fBG00 fBG01 fBG02
  replace B := B.step b
  replace BP0 := Lib.hid (BP0.out.below b)
  replace BW0 := Lib.hid (BW0.out.below b)
  replace BX0 := Lib.hid (BX0.out.below b)
  replace BG0 := Lib.hid (BG0.out.below b)
  replace ow0 := ow0.below b
  replace ox0 := ox0.below b
  replace og0 := og0.below b
  clear b
  obtain ⟨zBP0, fBP00, fBP01, fBP02⟩ := BP0.out
  obtain ⟨zBW0, fBW00, fBW01, fBW02⟩ := BW0.out
  obtain ⟨zBX0, fBX00, fBX01, fBX02⟩ := BX0.out
  obtain ⟨zBG0, fBG00, fBG01, fBG02⟩ := BG0.out
  go_wp2_with fail
  refine (toFw_h _ _ (p0, l0, q0) (R0.out.below B) hsm0).mono ?_
  rintro e w13 ⟨ym0, rfl, o0, b⟩
  have hzw13 := b.size
  clear zBP0 fBP00 fBP01 fBP02 zBW0 fBW00 fBW01 fBW02 zBX0 fBX00 fBX01 fBX02 zBG0 fBG00 fBG01 fBG02
  replace B := B.step b
  replace BP0 := Lib.hid (BP0.out.below b)
  replace BW0 := Lib.hid (BW0.out.below b)
  replace BX0 := Lib.hid (BX0.out.below b)
  replace BG0 := Lib.hid (BG0.out.below b)
  replace ow0 := ow0.below b
  replace ox0 := ox0.below b
  replace og0 := og0.below b
  clear b
  have om0 := o0.h
  clear o0
  obtain ⟨zBP0, fBP00, fBP01, fBP02⟩ := BP0.out
  obtain ⟨zBW0, fBW00, fBW01, fBW02⟩ := BW0.out
  obtain ⟨zBX0, fBX00, fBX01, fBX02⟩ := BX0.out
  obtain ⟨zBG0, fBG00, fBG01, fBG02⟩ := BG0.out
  go_wp2_with fail
  refine (impl_TurnFramework _ _ (p0, l0, q0) om0.is hsm0).mono ?_
  rintro e w14 ⟨yx, rfl, o0, b⟩
  rw [← HRES.out] at o0
  obtain ⟨vb, vp, ⟨abh, cbh, aph, cph, rfl, rfl, rfl⟩, ob, op⟩ := o0.h
  clear o0
  have hzw14 := b.size
  clear zBP0 fBP00 fBP01 fBP02 zBW0 fBW00 fBW01 fBW02 zBX0 fBX00 fBX01 fBX02 zBG0 fBG00 fBG01 fBG02
  replace B := B.step b
  replace BP0 := Lib.hid (BP0.out.below b)
  replace BW0 := Lib.hid (BW0.out.below b)
  replace BX0 := Lib.hid (BX0.out.below b)
  replace BG0 := Lib.hid (BG0.out.below b)
  replace ow0 := ow0.below b
  replace ox0 := ox0.below b
  replace og0 := og0.below b
  replace om0 := om0.below b
  clear b
  have oh0 : HFw w14 w13.heap.size w14.heap.size (.agg #[.int .i64 pr, .slice abh lr.length cbh, .slice aph qr.length cph]) (pr, lr, qr) := ⟨_, _, ⟨abh, cbh, aph, cph, rfl, rfl, rfl⟩, ob, op⟩
  clear ob op
  dsimp only
  obtain ⟨zBP0, fBP00, fBP01, fBP02⟩ := BP0.out
  obtain ⟨zBW0, fBW00, fBW01, fBW02⟩ := BW0.out
  obtain ⟨zBX0, fBX00, fBX01, fBX02⟩ := BX0.out
  obtain ⟨zBG0, fBG00, fBG01, fBG02⟩ := BG0.out
  clear om0
  go_wp2_with fail
  clear zBP0 fBP00 fBP01 fBP02 zBW0 fBW00 fBW01 fBW02 zBX0 fBX00 fBX01 fBX02 zBG0 fBG00 fBG01 fBG02
  have ba : Below w14.heap.size w14 (w14.alloc (.cells #[.int .i64 pr, .slice abh lr.length cbh, .slice aph qr.length cph] 42)) := (Below.refl _ _).alloc (Nat.le_refl _) _
  have hzu14 : (w14.alloc (.cells #[.int .i64 pr, .slice abh lr.length cbh, .slice aph qr.length cph] 42)).heap.size = w14.heap.size + 1 := by simp
  replace B := B.step ba
  replace BP0 := Lib.hid (BP0.out.below ba)
  replace BW0 := Lib.hid (BW0.out.below ba)
  replace BX0 := Lib.hid (BX0.out.below ba)
  replace BG0 := Lib.hid (BG0.out.below ba)
  replace ow0 := ow0.below ba
  replace ox0 := ox0.below ba
  replace og0 := og0.below ba
  replace oh0 := oh0.below ba
  clear ba
  have BH0 : Hid (BoxFw (w14.alloc (.cells #[.int .i64 pr, .slice abh lr.length cbh, .slice aph qr.length cph] 42)) (w14.heap.size) pr abh lr.length cbh aph qr.length cph) := Lib.hid (BoxFw.at rfl)
  generalize (w14.alloc (.cells #[.int .i64 pr, .slice abh lr.length cbh, .slice aph qr.length cph] 42)) = u14 at *
  obtain ⟨zBP0, fBP00, fBP01, fBP02⟩ := BP0.out
  obtain ⟨zBW0, fBW00, fBW01, fBW02⟩ := BW0.out
  obtain ⟨zBX0, fBX00, fBX01, fBX02⟩ := BX0.out
  obtain ⟨zBG0, fBG00, fBG01, fBG02⟩ := BG0.out
  obtain ⟨zBH0, fBH00, fBH01, fBH02⟩ := BH0.out
  refine (eqFw_h _ _ _ _ oh0.is ow0.is (by omega)).mono ?_
  rintro e w15 ⟨rfl, b⟩
  have hzw15 := b.size
  clear zBP0 fBP00 fBP01 fBP02 zBW0 fBW00 fBW01 fBW02 zBX0 fBX00 fBX01 fBX02 zBG0 fBG00 fBG01 fBG02 zBH0 fBH00 fBH01 fBH02
  replace B := B.step b
  replace BP0 := Lib.hid (BP0.out.below b)
  replace BW0 := Lib.hid (BW0.out.below b)
  replace BX0 := Lib.hid (BX0.out.below b)
  replace BG0 := Lib.hid (BG0.out.below b)
  replace BH0 := Lib.hid (BH0.out.below b)
  replace ow0 := ow0.below b
  replace ox0 := ox0.below b
  replace og0 := og0.below b
  replace oh0 := oh0.below b
  clear b
  obtain ⟨zBP0, fBP00, fBP01, fBP02⟩ := BP0.out
  obtain ⟨zBW0, fBW00, fBW01, fBW02⟩ := BW0.out
  obtain ⟨zBX0, fBX00, fBX01, fBX02⟩ := BX0.out
  obtain ⟨zBG0, fBG00, fBG01, fBG02⟩ := BG0.out
  obtain ⟨zBH0, fBH00, fBH01, fBH02⟩ := BH0.out
  go_wp2_with fail
  refine (heldFw_h _ _ _ _ og0.is (by omega) (by omega) (by omega)).mono ?_
  rintro e w16 ⟨rfl, b⟩
  have hzw16 := b.size
  clear zBP0 fBP00 fBP01 fBP02 zBW0 fBW00 fBW01 fBW02 zBX0 fBX00 fBX01 fBX02 zBG0 fBG00 fBG01 fBG02 zBH0 fBH00 fBH01 fBH02
  replace B := B.step b
  replace BP0 := Lib.hid (BP0.out.below b)
  replace BW0 := Lib.hid (BW0.out.below b)
  replace BX0 := Lib.hid (BX0.out.below b)
  replace BG0 := Lib.hid (BG0.out.below b)
  replace BH0 := Lib.hid (BH0.out.below b)
  replace ow0 := ow0.below b
  replace ox0 := ox0.below b
  replace og0 := og0.below b
  replace oh0 := oh0.below b
  clear b
  obtain ⟨zBP0, fBP00, fBP01, fBP02⟩ := BP0.out
  obtain ⟨zBW0, fBW00, fBW01, fBW02⟩ := BW0.out
  obtain ⟨zBX0, fBX00, fBX01, fBX02⟩ := BX0.out
  obtain ⟨zBG0, fBG00, fBG01, fBG02⟩ := BG0.out
  obtain ⟨zBH0, fBH00, fBH01, fBH02⟩ := BH0.out
  go_wp2_with fail
  go_ret
  exact ⟨rfl, B⟩
end Go.Proofs.Ytkjoeogoebpkjaa
