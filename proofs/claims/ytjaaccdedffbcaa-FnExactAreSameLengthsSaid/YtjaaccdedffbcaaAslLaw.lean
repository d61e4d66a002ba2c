/- The law FnExactAreSameLengths returns true: the walk, written by lawwalk2.py. No condition. -/
import Derived.Test.YtjaaccdedffbcaaAsl
import Derived.Test.YtjaaccdedffbcaaFwH
import Derived.Test.YtjaaccdedffbcaaRdFw
import Derived.Test.YtjaaccdedffbcaaBox
import Derived.Deep.RegionHeld3
namespace Go.Proofs.Ytjaaccdedffbcaa
open Go.RowKit
set_option linter.unusedVariables false
set_option linter.unusedSimpArgs false

set_option maxHeartbeats 8000000 in
theorem walkFnExactAreSameLengths (W : World) (v0 : Value) (x0 : FwT) (r0 : IsFw W v0 x0) (ok0 : OkFw x0) (v1 : Value) (x1 : FwT) (r1 : IsFw W v1 x1) (ok1 : OkFw x1) :
    Calls Try.prog 9 #[v0, v1] W fun e w' => e = .returned (.bool true) ∧ Below W.heap.size W w' := by
  obtain ⟨p0, l0, q0⟩ := x0
  obtain ⟨a0, cap0, c0, capc0, rfl, hi0, hj0⟩ := r0
  dsimp only at hi0 hj0
  have R0 : Hid (IsFw W (.agg #[.int .i64 p0, .slice a0 l0.length cap0, .slice c0 q0.length capc0]) (p0, l0, q0)) := Lib.hid ⟨a0, cap0, c0, capc0, rfl, hi0, hj0⟩
  clear hi0 hj0
  obtain ⟨p1, l1, q1⟩ := x1
  obtain ⟨a1, cap1, c1, capc1, rfl, hi1, hj1⟩ := r1
  dsimp only at hi1 hj1
  have R1 : Hid (IsFw W (.agg #[.int .i64 p1, .slice a1 l1.length cap1, .slice c1 q1.length capc1]) (p1, l1, q1)) := Lib.hid ⟨a1, cap1, c1, capc1, rfl, hi1, hj1⟩
  clear hi1 hj1
  dsimp only
  have BP0 : Hid (BoxFw ((W.alloc (.cells #[.int .i64 p0, .slice a0 l0.length cap0, .slice c0 q0.length capc0] 39)).alloc (.cells #[.int .i64 p1, .slice a1 l1.length cap1, .slice c1 q1.length capc1] 39)) (W.heap.size) p0 a0 l0.length cap0 c0 q0.length capc0) := Lib.hid ((BoxFw.at (by simp)).below ((Below.refl _ _).alloc (Nat.le_refl _) _))
  have BP1 : Hid (BoxFw ((W.alloc (.cells #[.int .i64 p0, .slice a0 l0.length cap0, .slice c0 q0.length capc0] 39)).alloc (.cells #[.int .i64 p1, .slice a1 l1.length cap1, .slice c1 q1.length capc1] 39)) (W.heap.size + 1) p1 a1 l1.length cap1 c1 q1.length capc1) := Lib.hid (BoxFw.at (by simp))
  have BB : Below W.heap.size W ((W.alloc (.cells #[.int .i64 p0, .slice a0 l0.length cap0, .slice c0 q0.length capc0] 39)).alloc (.cells #[.int .i64 p1, .slice a1 l1.length cap1, .slice c1 q1.length capc1] 39)) := ((Below.refl W.heap.size W).alloc (by simp <;> omega) _).alloc (by simp <;> omega) _
  have hzu : ((W.alloc (.cells #[.int .i64 p0, .slice a0 l0.length cap0, .slice c0 q0.length capc0] 39)).alloc (.cells #[.int .i64 p1, .slice a1 l1.length cap1, .slice c1 q1.length capc1] 39)).heap.size = W.heap.size + 2 := by simp
  by_cases hbig0 : 1048576 < szFw (p0, l0, q0)
  · go_enter Try.func9, Try.ntmps9
    have B := BB
    go_wp2_with fail
    generalize ((W.alloc (.cells #[.int .i64 p0, .slice a0 l0.length cap0, .slice c0 q0.length capc0] 39)).alloc (.cells #[.int .i64 p1, .slice a1 l1.length cap1, .slice c1 q1.length capc1] 39)) = u0 at *
    obtain ⟨zBP0, fBP00, fBP01, fBP02⟩ := BP0.out
    obtain ⟨zBP1, fBP10, fBP11, fBP12⟩ := BP1.out
    refine (szFw_h _ _ (p0, l0, q0) (1048576) (R0.out.below B) ok0 (by omega) (by omega)).mono ?_
    rintro e w1 ⟨rfl, b⟩
    have hzw1 := b.size
    clear zBP0 fBP00 fBP01 fBP02 zBP1 fBP10 fBP11 fBP12
    replace B := B.step b
    replace BP0 := Lib.hid (BP0.out.below b)
    replace BP1 := Lib.hid (BP1.out.below b)
    clear b
    obtain ⟨zBP0, fBP00, fBP01, fBP02⟩ := BP0.out
    obtain ⟨zBP1, fBP10, fBP11, fBP12⟩ := BP1.out
    rw [szRes_pos (by omega)]
    go_wp2_with fail
    go_ret
    exact ⟨rfl, B⟩
  by_cases hbig1 : 1048576 < szFw (p0, l0, q0) + szFw (p1, l1, q1)
  · go_enter Try.func9, Try.ntmps9
    have B := BB
    go_wp2_with fail
    generalize ((W.alloc (.cells #[.int .i64 p0, .slice a0 l0.length cap0, .slice c0 q0.length capc0] 39)).alloc (.cells #[.int .i64 p1, .slice a1 l1.length cap1, .slice c1 q1.length capc1] 39)) = u0 at *
    obtain ⟨zBP0, fBP00, fBP01, fBP02⟩ := BP0.out
    obtain ⟨zBP1, fBP10, fBP11, fBP12⟩ := BP1.out
    refine (szFw_h _ _ (p0, l0, q0) (1048576) (R0.out.below B) ok0 (by omega) (by omega)).mono ?_
    rintro e w1 ⟨rfl, b⟩
    have hzw1 := b.size
    clear zBP0 fBP00 fBP01 fBP02 zBP1 fBP10 fBP11 fBP12
    replace B := B.step b
    replace BP0 := Lib.hid (BP0.out.below b)
    replace BP1 := Lib.hid (BP1.out.below b)
    clear b
    obtain ⟨zBP0, fBP00, fBP01, fBP02⟩ := BP0.out
    obtain ⟨zBP1, fBP10, fBP11, fBP12⟩ := BP1.out
    rw [szRes_neg (by omega)]
    go_wp2_with fail
    refine (szFw_h _ _ (p1, l1, q1) (1048576 - ((szFw (p0, l0, q0) : Nat) : Int)) (R1.out.below B) ok1 (by omega) (by omega)).mono ?_
    rintro e w2 ⟨rfl, b⟩
    have hzw2 := b.size
    clear zBP0 fBP00 fBP01 fBP02 zBP1 fBP10 fBP11 fBP12
    replace B := B.step b
    replace BP0 := Lib.hid (BP0.out.below b)
    replace BP1 := Lib.hid (BP1.out.below b)
    clear b
    obtain ⟨zBP0, fBP00, fBP01, fBP02⟩ := BP0.out
    obtain ⟨zBP1, fBP10, fBP11, fBP12⟩ := BP1.out
    rw [szRes_pos (by omega)]
    go_wp2_with fail
    go_ret
    exact ⟨rfl, B⟩
  have hsm0 : szFw (p0, l0, q0) ≤ 1048576 := by omega
  have hsm1 : szFw (p1, l1, q1) ≤ 1048576 := by omega
  go_enter Try.func9, Try.ntmps9
  have B := BB
  go_wp2_with fail
  generalize ((W.alloc (.cells #[.int .i64 p0, .slice a0 l0.length cap0, .slice c0 q0.length capc0] 39)).alloc (.cells #[.int .i64 p1, .slice a1 l1.length cap1, .slice c1 q1.length capc1] 39)) = u0 at *
  obtain ⟨zBP0, fBP00, fBP01, fBP02⟩ := BP0.out
  obtain ⟨zBP1, fBP10, fBP11, fBP12⟩ := BP1.out
  refine (szFw_h _ _ (p0, l0, q0) (1048576) (R0.out.below B) ok0 (by omega) (by omega)).mono ?_
  rintro e w1 ⟨rfl, b⟩
  have hzw1 := b.size
  clear zBP0 fBP00 fBP01 fBP02 zBP1 fBP10 fBP11 fBP12
  replace B := B.step b
  replace BP0 := Lib.hid (BP0.out.below b)
  replace BP1 := Lib.hid (BP1.out.below b)
  clear b
  obtain ⟨zBP0, fBP00, fBP01, fBP02⟩ := BP0.out
  obtain ⟨zBP1, fBP10, fBP11, fBP12⟩ := BP1.out
  rw [szRes_neg (by omega)]
  go_wp2_with fail
  refine (szFw_h _ _ (p1, l1, q1) (1048576 - ((szFw (p0, l0, q0) : Nat) : Int)) (R1.out.below B) ok1 (by omega) (by omega)).mono ?_
  rintro e w2 ⟨rfl, b⟩
  have hzw2 := b.size
  clear zBP0 fBP00 fBP01 fBP02 zBP1 fBP10 fBP11 fBP12
  replace B := B.step b
  replace BP0 := Lib.hid (BP0.out.below b)
  replace BP1 := Lib.hid (BP1.out.below b)
  clear b
  obtain ⟨zBP0, fBP00, fBP01, fBP02⟩ := BP0.out
  obtain ⟨zBP1, fBP10, fBP11, fBP12⟩ := BP1.out
  rw [szRes_neg (by omega)]
  go_wp2_with fail
  have bd : Below w2.heap.size w2 w2.drew := (Below.refl _ _).drew
  have hzd2 := bd.size
  clear zBP0 fBP00 fBP01 fBP02 zBP1 fBP10 fBP11 fBP12
  replace B := B.step bd
  replace BP0 := Lib.hid (BP0.out.below bd)
  replace BP1 := Lib.hid (BP1.out.below bd)
  clear bd
  have tk1 := True.intro
  have tk2 := True.intro
  have tk3 := True.intro
  go_region_held3 (fun w' => w'.cell? ⟨W.heap.size, 0, none⟩ = some (.int .i64 p0) ∧ w'.cell? ⟨W.heap.size, 1, none⟩ = some (.slice a0 l0.length cap0) ∧ w'.cell? ⟨W.heap.size, 2, none⟩ = some (.slice c0 q0.length capc0) ∧ w'.cell? ⟨W.heap.size + 1, 0, none⟩ = some (.int .i64 p1) ∧ w'.cell? ⟨W.heap.size + 1, 1, none⟩ = some (.slice a1 l1.length cap1) ∧ w'.cell? ⟨W.heap.size + 1, 2, none⟩ = some (.slice c1 q1.length capc1))
    (with_reducible exact ⟨BP0.out.c0, BP0.out.c1, BP0.out.c2, BP1.out.c0, BP1.out.c1, BP1.out.c2⟩)
    (first
      | (clear tk1; go_at_call 32; refine (toFw_h _ _ (p0, l0, q0) (R0.out.below B) hsm0).mono ?_; rintro e w3 ⟨ya0, rfl, o0, b⟩; have hzw3 := b.size; replace B := B.step b; replace BP0 := Lib.hid (BP0.out.below b); replace BP1 := Lib.hid (BP1.out.below b); clear b; have oa0 := o0.h; clear o0)
      | (clear tk2; go_at_call 32; refine (toFw_h _ _ (p1, l1, q1) (R1.out.below B) hsm1).mono ?_; rintro e w4 ⟨ya1, rfl, o0, b⟩; have hzw4 := b.size; replace B := B.step b; replace BP0 := Lib.hid (BP0.out.below b); replace BP1 := Lib.hid (BP1.out.below b); replace oa0 := oa0.below b; clear b; have oa1 := o0.h; clear o0)
      | (clear tk3; go_at_call 39; refine (spec_AreSameLengths _ _ (p0, l0, q0) oa0.is _ (p1, l1, q1) oa1.is hsm0 hsm1).mono ?_; rintro e w5 ⟨rfl, b⟩; have hzw5 := b.size; replace B := B.step b; replace BP0 := Lib.hid (BP0.out.below b); replace BP1 := Lib.hid (BP1.out.below b); replace oa0 := oa0.below b; replace oa1 := oa1.below b; clear b))
  obtain ⟨zBP0, fBP00, fBP01, fBP02⟩ := BP0.out
  obtain ⟨zBP1, fBP10, fBP11, fBP12⟩ := BP1.out
  clear oa0
  clear oa1
  go_wp2_with fail
  refine (toFw_h _ _ (p0, l0, q0) (R0.out.below B) hsm0).mono ?_
  rintro e w6 ⟨yx, rfl, o0, b⟩
  obtain ⟨vb, vp, ⟨ab0, cb0, ap0, cp0, rfl, rfl, rfl⟩, ob, op⟩ := o0.h
  clear o0
  have hzw6 := b.size
  clear zBP0 fBP00 fBP01 fBP02 zBP1 fBP10 fBP11 fBP12
  replace B := B.step b
  replace BP0 := Lib.hid (BP0.out.below b)
  replace BP1 := Lib.hid (BP1.out.below b)
  clear b
  have ox0 : HFw w6 w5.heap.size w6.heap.size (.agg #[.int .i64 p0, .slice ab0 l0.length cb0, .slice ap0 q0.length cp0]) (p0, l0, q0) := ⟨_, _, ⟨ab0, cb0, ap0, cp0, rfl, rfl, rfl⟩, ob, op⟩
  clear ob op
  dsimp only
  obtain ⟨zBP0, fBP00, fBP01, fBP02⟩ := BP0.out
  obtain ⟨zBP1, fBP10, fBP11, fBP12⟩ := BP1.out
  go_wp2_with fail
  clear zBP0 fBP00 fBP01 fBP02 zBP1 fBP10 fBP11 fBP12
  have ba : Below w6.heap.size w6 (w6.alloc (.cells #[.int .i64 p0, .slice ab0 l0.length cb0, .slice ap0 q0.length cp0] 47)) := (Below.refl _ _).alloc (Nat.le_refl _) _
  have hzu6 : (w6.alloc (.cells #[.int .i64 p0, .slice ab0 l0.length cb0, .slice ap0 q0.length cp0] 47)).heap.size = w6.heap.size + 1 := by simp
  replace B := B.step ba
  replace BP0 := Lib.hid (BP0.out.below ba)
  replace BP1 := Lib.hid (BP1.out.below ba)
  replace ox0 := ox0.below ba
  clear ba
  have BX0 : Hid (BoxFw (w6.alloc (.cells #[.int .i64 p0, .slice ab0 l0.length cb0, .slice ap0 q0.length cp0] 47)) (w6.heap.size) p0 ab0 l0.length cb0 ap0 q0.length cp0) := Lib.hid (BoxFw.at rfl)
  generalize (w6.alloc (.cells #[.int .i64 p0, .slice ab0 l0.length cb0, .slice ap0 q0.length cp0] 47)) = u6 at *
  obtain ⟨zBP0, fBP00, fBP01, fBP02⟩ := BP0.out
  obtain ⟨zBP1, fBP10, fBP11, fBP12⟩ := BP1.out
  obtain ⟨zBX0, fBX00, fBX01, fBX02⟩ := BX0.out
  refine (toFw_h _ _ (p1, l1, q1) (R1.out.below B) hsm1).mono ?_
  rintro e w7 ⟨yx, rfl, o0, b⟩
  obtain ⟨vb, vp, ⟨ab1, cb1, ap1, cp1, rfl, rfl, rfl⟩, ob, op⟩ := o0.h
  clear o0
  have hzw7 := b.size
  clear zBP0 fBP00 fBP01 fBP02 zBP1 fBP10 fBP11 fBP12 zBX0 fBX00 fBX01 fBX02
  replace B := B.step b
  replace BP0 := Lib.hid (BP0.out.below b)
  replace BP1 := Lib.hid (BP1.out.below b)
  replace BX0 := Lib.hid (BX0.out.below b)
  replace ox0 := ox0.below b
  clear b
  have ox1 : HFw w7 u6.heap.size w7.heap.size (.agg #[.int .i64 p1, .slice ab1 l1.length cb1, .slice ap1 q1.length cp1]) (p1, l1, q1) := ⟨_, _, ⟨ab1, cb1, ap1, cp1, rfl, rfl, rfl⟩, ob, op⟩
  clear ob op
  dsimp only
  obtain ⟨zBP0, fBP00, fBP01, fBP02⟩ := BP0.out
  obtain ⟨zBP1, fBP10, fBP11, fBP12⟩ := BP1.out
  obtain ⟨zBX0, fBX00, fBX01, fBX02⟩ := BX0.out
  go_wp2_with fail
  clear zBP0 fBP00 fBP01 fBP02 zBP1 fBP10 fBP11 fBP12 zBX0 fBX00 fBX01 fBX02
  have ba : Below w7.heap.size w7 (w7.alloc (.cells #[.int .i64 p1, .slice ab1 l1.length cb1, .slice ap1 q1.length cp1] 47)) := (Below.refl _ _).alloc (Nat.le_refl _) _
  have hzu7 : (w7.alloc (.cells #[.int .i64 p1, .slice ab1 l1.length cb1, .slice ap1 q1.length cp1] 47)).heap.size = w7.heap.size + 1 := by simp
  replace B := B.step ba
  replace BP0 := Lib.hid (BP0.out.below ba)
  replace BP1 := Lib.hid (BP1.out.below ba)
  replace BX0 := Lib.hid (BX0.out.below ba)
  replace ox0 := ox0.below ba
  replace ox1 := ox1.below ba
  clear ba
  have BX1 : Hid (BoxFw (w7.alloc (.cells #[.int .i64 p1, .slice ab1 l1.length cb1, .slice ap1 q1.length cp1] 47)) (w7.heap.size) p1 ab1 l1.length cb1 ap1 q1.length cp1) := Lib.hid (BoxFw.at rfl)
  generalize (w7.alloc (.cells #[.int .i64 p1, .slice ab1 l1.length cb1, .slice ap1 q1.length cp1] 47)) = u7 at *
  obtain ⟨zBP0, fBP00, fBP01, fBP02⟩ := BP0.out
  obtain ⟨zBP1, fBP10, fBP11, fBP12⟩ := BP1.out
  obtain ⟨zBX0, fBX00, fBX01, fBX02⟩ := BX0.out
  obtain ⟨zBX1, fBX10, fBX11, fBX12⟩ := BX1.out
  refine (impl_AreSameLengths _ _ (p0, l0, q0) ox0.is _ (p1, l1, q1) ox1.is hsm0 hsm1).mono ?_
  rintro e w8 ⟨rfl, b⟩
  have hzw8 := b.size
  clear zBP0 fBP00 fBP01 fBP02 zBP1 fBP10 fBP11 fBP12 zBX0 fBX00 fBX01 fBX02 zBX1 fBX10 fBX11 fBX12
  replace B := B.step b
  replace BP0 := Lib.hid (BP0.out.below b)
  replace BP1 := Lib.hid (BP1.out.below b)
  replace BX0 := Lib.hid (BX0.out.below b)
  replace BX1 := Lib.hid (BX1.out.below b)
  replace ox0 := ox0.below b
  replace ox1 := ox1.below b
  clear b
  obtain ⟨zBP0, fBP00, fBP01, fBP02⟩ := BP0.out
  obtain ⟨zBP1, fBP10, fBP11, fBP12⟩ := BP1.out
  obtain ⟨zBX0, fBX00, fBX01, fBX02⟩ := BX0.out
  obtain ⟨zBX1, fBX10, fBX11, fBX12⟩ := BX1.out
  go_wp2_with fail
  have bd : Below w8.heap.size w8 w8.drew := (Below.refl _ _).drew
  have hzd8 := bd.size
  clear zBP0 fBP00 fBP01 fBP02 zBP1 fBP10 fBP11 fBP12 zBX0 fBX00 fBX01 fBX02 zBX1 fBX10 fBX11 fBX12
  replace B := B.step bd
  replace BP0 := Lib.hid (BP0.out.below bd)
  replace BP1 := Lib.hid (BP1.out.below bd)
  replace BX0 := Lib.hid (BX0.out.below bd)
  replace BX1 := Lib.hid (BX1.out.below bd)
  replace ox0 := ox0.below bd
  replace ox1 := ox1.below bd
  clear bd
  have tk1 := True.intro
  have tk2 := True.intro
  go_region_held3 (fun w' => w'.cell? ⟨W.heap.size, 0, none⟩ = some (.int .i64 p0) ∧ w'.cell? ⟨W.heap.size, 1, none⟩ = some (.slice a0 l0.length cap0) ∧ w'.cell? ⟨W.heap.size, 2, none⟩ = some (.slice c0 q0.length capc0) ∧ w'.cell? ⟨w6.heap.size, 0, none⟩ = some (.int .i64 p0) ∧ w'.cell? ⟨w6.heap.size, 1, none⟩ = some (.slice ab0 l0.length cb0) ∧ w'.cell? ⟨w6.heap.size, 2, none⟩ = some (.slice ap0 q0.length cp0))
    (with_reducible exact ⟨BP0.out.c0, BP0.out.c1, BP0.out.c2, BX0.out.c0, BX0.out.c1, BX0.out.c2⟩)
    (first
      | (clear tk1; go_at_call 32; refine (toFw_h _ _ (p0, l0, q0) (R0.out.below B) hsm0).mono ?_; rintro e w9 ⟨yz0, rfl, o0, b⟩; have hzw9 := b.size; replace B := B.step b; replace BP0 := Lib.hid (BP0.out.below b); replace BP1 := Lib.hid (BP1.out.below b); replace BX0 := Lib.hid (BX0.out.below b); replace BX1 := Lib.hid (BX1.out.below b); replace ox0 := ox0.below b; replace ox1 := ox1.below b; clear b; have oz0 := o0.h; clear o0)
      | (clear tk2; go_at_call 34; refine (eqFw_h _ _ _ _ ox0.is oz0.is (by omega)).mono ?_; rintro e w10 ⟨rfl, b⟩; have hzw10 := b.size; replace B := B.step b; replace BP0 := Lib.hid (BP0.out.below b); replace BP1 := Lib.hid (BP1.out.below b); replace BX0 := Lib.hid (BX0.out.below b); replace BX1 := Lib.hid (BX1.out.below b); replace ox0 := ox0.below b; replace ox1 := ox1.below b; replace oz0 := oz0.below b; clear b))
  obtain ⟨zBP0, fBP00, fBP01, fBP02⟩ := BP0.out
  obtain ⟨zBP1, fBP10, fBP11, fBP12⟩ := BP1.out
  obtain ⟨zBX0, fBX00, fBX01, fBX02⟩ := BX0.out
  obtain ⟨zBX1, fBX10, fBX11, fBX12⟩ := BX1.out
  clear oz0
  go_wp2_with fail
  have bd : Below w10.heap.size w10 w10.drew := (Below.refl _ _).drew
  have hzd10 := bd.size
  clear zBP0 fBP00 fBP01 fBP02 zBP1 fBP10 fBP11 fBP12 zBX0 fBX00 fBX01 fBX02 zBX1 fBX10 fBX11 fBX12
  replace B := B.step bd
  replace BP0 := Lib.hid (BP0.out.below bd)
  replace BP1 := Lib.hid (BP1.out.below bd)
  replace BX0 := Lib.hid (BX0.out.below bd)
  replace BX1 := Lib.hid (BX1.out.below bd)
  replace ox0 := ox0.below bd
  replace ox1 := ox1.below bd
  clear bd
  have tk1 := True.intro
  have tk2 := True.intro
  go_region_held3 (fun w' => w'.cell? ⟨W.heap.size + 1, 0, none⟩ = some (.int .i64 p1) ∧ w'.cell? ⟨W.heap.size + 1, 1, none⟩ = some (.slice a1 l1.length cap1) ∧ w'.cell? ⟨W.heap.size + 1, 2, none⟩ = some (.slice c1 q1.length capc1) ∧ w'.cell? ⟨w7.heap.size, 0, none⟩ = some (.int .i64 p1) ∧ w'.cell? ⟨w7.heap.size, 1, none⟩ = some (.slice ab1 l1.length cb1) ∧ w'.cell? ⟨w7.heap.size, 2, none⟩ = some (.slice ap1 q1.length cp1))
    (with_reducible exact ⟨BP1.out.c0, BP1.out.c1, BP1.out.c2, BX1.out.c0, BX1.out.c1, BX1.out.c2⟩)
    (first
      | (clear tk1; go_at_call 32; refine (toFw_h _ _ (p1, l1, q1) (R1.out.below B) hsm1).mono ?_; rintro e w11 ⟨yz1, rfl, o0, b⟩; have hzw11 := b.size; replace B := B.step b; replace BP0 := Lib.hid (BP0.out.below b); replace BP1 := Lib.hid (BP1.out.below b); replace BX0 := Lib.hid (BX0.out.below b); replace BX1 := Lib.hid (BX1.out.below b); replace ox0 := ox0.below b; replace ox1 := ox1.below b; clear b; have oz1 := o0.h; clear o0)
      | (clear tk2; go_at_call 34; refine (eqFw_h _ _ _ _ ox1.is oz1.is (by omega)).mono ?_; rintro e w12 ⟨rfl, b⟩; have hzw12 := b.size; replace B := B.step b; replace BP0 := Lib.hid (BP0.out.below b); replace BP1 := Lib.hid (BP1.out.below b); replace BX0 := Lib.hid (BX0.out.below b); replace BX1 := Lib.hid (BX1.out.below b); replace ox0 := ox0.below b; replace ox1 := ox1.below b; replace oz1 := oz1.below b; clear b))
  obtain ⟨zBP0, fBP00, fBP01, fBP02⟩ := BP0.out
  obtain ⟨zBP1, fBP10, fBP11, fBP12⟩ := BP1.out
  obtain ⟨zBX0, fBX00, fBX01, fBX02⟩ := BX0.out
  obtain ⟨zBX1, fBX10, fBX11, fBX12⟩ := BX1.out
  clear oz1
  go_wp2_with fail
  go_ret
  exact ⟨rfl, B⟩
end Go.Proofs.Ytjaaccdedffbcaa
