/- The law FnExactIsGenericHere returns true: the walk, written by lawwalk2.py. No condition. -/
import Derived.Test.YtmfeabfbhaiaeaaGen
import Derived.Test.YtmfeabfbhaiaeaaFwH
import Derived.Test.YtmfeabfbhaiaeaaRdFw
import Derived.Test.YtmfeabfbhaiaeaaBox
import Derived.Deep.RegionHeld3
namespace Go.Proofs.Ytmfeabfbhaiaeaa
open Go.RowKit
set_option maxRecDepth 100000
set_option linter.unusedVariables false
set_option linter.unusedSimpArgs false

set_option maxHeartbeats 8000000 in
theorem walkFnExactIsGenericHere (W : World) (v0 : Value) (x0 : FwT) (r0 : IsFw W v0 x0) (ok0 : OkFw x0) :
    Calls Try.prog 3 #[v0] W fun e w' => e = .returned (.bool true) ∧ Below W.heap.size W w' := by
  obtain ⟨p0, l0, q0⟩ := x0
  obtain ⟨a0, cap0, c0, capc0, rfl, hi0, hj0⟩ := r0
  dsimp only at hi0 hj0
  have R0 : Hid (IsFw W (.agg #[.int .i64 p0, .slice a0 l0.length cap0, .slice c0 q0.length capc0]) (p0, l0, q0)) := Lib.hid ⟨a0, cap0, c0, capc0, rfl, hi0, hj0⟩
  clear hi0 hj0
  dsimp only
  have BP0 : Hid (BoxFw (W.alloc (.cells #[.int .i64 p0, .slice a0 l0.length cap0, .slice c0 q0.length capc0] 27)) (W.heap.size) p0 a0 l0.length cap0 c0 q0.length capc0) := Lib.hid (BoxFw.at (by simp))
  have BB : Below W.heap.size W (W.alloc (.cells #[.int .i64 p0, .slice a0 l0.length cap0, .slice c0 q0.length capc0] 27)) := (Below.refl W.heap.size W).alloc (by simp <;> omega) _
  have hzu : (W.alloc (.cells #[.int .i64 p0, .slice a0 l0.length cap0, .slice c0 q0.length capc0] 27)).heap.size = W.heap.size + 1 := by simp
  by_cases hbig0 : 1048576 < szFw (p0, l0, q0)
  · go_enter Try.func3, Try.ntmps3
    have B := BB
    go_wp2_with fail
    generalize (W.alloc (.cells #[.int .i64 p0, .slice a0 l0.length cap0, .slice c0 q0.length capc0] 27)) = u0 at *
    obtain ⟨zBP0, fBP00, fBP01, fBP02⟩ := BP0.out
    refine (szFw_h _ _ (p0, l0, q0) (1048576) (R0.out.below B) ok0 (by omega) (by omega)).mono ?_
    rintro e w1 ⟨rfl, b⟩
    have hzw1 := b.size
    clear zBP0 fBP00 fBP01 fBP02
    replace B := B.step b
    replace BP0 := Lib.hid (BP0.out.below b)
    clear b
    obtain ⟨zBP0, fBP00, fBP01, fBP02⟩ := BP0.out
    rw [szRes_pos (by omega)]
    go_wp2_with fail
    go_ret
    exact ⟨rfl, B⟩
  have hsm0 : szFw (p0, l0, q0) ≤ 1048576 := by omega
  go_enter Try.func3, Try.ntmps3
  have B := BB
  go_wp2_with fail
  generalize (W.alloc (.cells #[.int .i64 p0, .slice a0 l0.length cap0, .slice c0 q0.length capc0] 27)) = u0 at *
  obtain ⟨zBP0, fBP00, fBP01, fBP02⟩ := BP0.out
  refine (szFw_h _ _ (p0, l0, q0) (1048576) (R0.out.below B) ok0 (by omega) (by omega)).mono ?_
  rintro e w1 ⟨rfl, b⟩
  have hzw1 := b.size
  clear zBP0 fBP00 fBP01 fBP02
  replace B := B.step b
  replace BP0 := Lib.hid (BP0.out.below b)
  clear b
  obtain ⟨zBP0, fBP00, fBP01, fBP02⟩ := BP0.out
  rw [szRes_neg (by omega)]
  go_wp2_with fail
  refine (toFw_h _ _ (p0, l0, q0) (R0.out.below B) hsm0).mono ?_
  rintro e w2 ⟨ya0, rfl, o0, b⟩
  have hzw2 := b.size
  clear zBP0 fBP00 fBP01 fBP02
  replace B := B.step b
  replace BP0 := Lib.hid (BP0.out.below b)
  clear b
  have oa0 := o0.h
  clear o0
  obtain ⟨zBP0, fBP00, fBP01, fBP02⟩ := BP0.out
  go_wp2_with fail
  refine (spec_IsGenericHere _ _ (p0, l0, q0) oa0.is hsm0).mono ?_
  rintro e w3 ⟨rfl, b⟩
  have hzw3 := b.size
  clear zBP0 fBP00 fBP01 fBP02
  replace B := B.step b
  replace BP0 := Lib.hid (BP0.out.below b)
  replace oa0 := oa0.below b
  clear b
  obtain ⟨zBP0, fBP00, fBP01, fBP02⟩ := BP0.out
  clear oa0
  go_wp2_with fail
  refine (toFw_h _ _ (p0, l0, q0) (R0.out.below B) hsm0).mono ?_
  rintro e w4 ⟨yx, rfl, o0, b⟩
  obtain ⟨vb, vp, ⟨ab0, cb0, ap0, cp0, rfl, rfl, rfl⟩, ob, op⟩ := o0.h
  clear o0
  have hzw4 := b.size
  clear zBP0 fBP00 fBP01 fBP02
  replace B := B.step b
  replace BP0 := Lib.hid (BP0.out.below b)
  clear b
  have ox0 : HFw w4 w3.heap.size w4.heap.size (.agg #[.int .i64 p0, .slice ab0 l0.length cb0, .slice ap0 q0.length cp0]) (p0, l0, q0) := ⟨_, _, ⟨ab0, cb0, ap0, cp0, rfl, rfl, rfl⟩, ob, op⟩
  clear ob op
  dsimp only
  obtain ⟨zBP0, fBP00, fBP01, fBP02⟩ := BP0.out
  go_wp2_with fail
  clear zBP0 fBP00 fBP01 fBP02
  have ba : Below w4.heap.size w4 (w4.alloc (.cells #[.int .i64 p0, .slice ab0 l0.length cb0, .slice ap0 q0.length cp0] 35)) := (Below.refl _ _).alloc (Nat.le_refl _) _
  have hzu4 : (w4.alloc (.cells #[.int .i64 p0, .slice ab0 l0.length cb0, .slice ap0 q0.length cp0] 35)).heap.size ≤ w4.heap.size + 1 := by simp
  have hyu4 : w4.heap.size + 1 ≤ (w4.alloc (.cells #[.int .i64 p0, .slice ab0 l0.length cb0, .slice ap0 q0.length cp0] 35)).heap.size := by simp
  replace B := B.step ba
  replace BP0 := Lib.hid (BP0.out.below ba)
  replace ox0 := ox0.below ba
  clear ba
  have BX0 : Hid (BoxFw (w4.alloc (.cells #[.int .i64 p0, .slice ab0 l0.length cb0, .slice ap0 q0.length cp0] 35)) (w4.heap.size) p0 ab0 l0.length cb0 ap0 q0.length cp0) := Lib.hid (BoxFw.at rfl)
  generalize (w4.alloc (.cells #[.int .i64 p0, .slice ab0 l0.length cb0, .slice ap0 q0.length cp0] 35)) = u4 at *
  obtain ⟨zBP0, fBP00, fBP01, fBP02⟩ := BP0.out
  obtain ⟨zBX0, fBX00, fBX01, fBX02⟩ := BX0.out
  refine (impl_IsGenericHere _ _ (p0, l0, q0) ox0.is hsm0).mono ?_
  rintro e w5 ⟨rfl, b⟩
  have hzw5 := b.size
  clear zBP0 fBP00 fBP01 fBP02 zBX0 fBX00 fBX01 fBX02
  replace B := B.step b
  replace BP0 := Lib.hid (BP0.out.below b)
  replace BX0 := Lib.hid (BX0.out.below b)
  replace ox0 := ox0.below b
  clear b
  obtain ⟨zBP0, fBP00, fBP01, fBP02⟩ := BP0.out
  obtain ⟨zBX0, fBX00, fBX01, fBX02⟩ := BX0.out
  go_wp2_with fail
  have bd : Below w5.heap.size w5 w5.drew := (Below.refl _ _).drew
  have hzd5 := bd.size
  clear zBP0 fBP00 fBP01 fBP02 zBX0 fBX00 fBX01 fBX02
  replace B := B.step bd
  replace BP0 := Lib.hid (BP0.out.below bd)
  replace BX0 := Lib.hid (BX0.out.below bd)
  replace ox0 := ox0.below bd
  clear bd
  have tk1 := True.intro
  have tk2 := True.intro
  go_region_held3 (fun w' => w'.cell? ⟨W.heap.size, 0, none⟩ = some (.int .i64 p0) ∧ w'.cell? ⟨W.heap.size, 1, none⟩ = some (.slice a0 l0.length cap0) ∧ w'.cell? ⟨W.heap.size, 2, none⟩ = some (.slice c0 q0.length capc0) ∧ w'.cell? ⟨w4.heap.size, 0, none⟩ = some (.int .i64 p0) ∧ w'.cell? ⟨w4.heap.size, 1, none⟩ = some (.slice ab0 l0.length cb0) ∧ w'.cell? ⟨w4.heap.size, 2, none⟩ = some (.slice ap0 q0.length cp0))
    (with_reducible exact ⟨BP0.out.c0, BP0.out.c1, BP0.out.c2, BX0.out.c0, BX0.out.c1, BX0.out.c2⟩)
    (first
      | (clear tk1; go_at_call 10; refine (toFw_h _ _ (p0, l0, q0) (R0.out.below B) hsm0).mono ?_; rintro e w6 ⟨yz0, rfl, o0, b⟩; have hzw6 := b.size; replace B := B.step b; replace BP0 := Lib.hid (BP0.out.below b); replace BX0 := Lib.hid (BX0.out.below b); replace ox0 := ox0.below b; clear b; have oz0 := o0.h; clear o0)
      | (clear tk2; go_at_call 12; refine (eqFw_h _ _ _ _ ox0.is oz0.is (by omega)).mono ?_; rintro e w7 ⟨rfl, b⟩; have hzw7 := b.size; replace B := B.step b; replace BP0 := Lib.hid (BP0.out.below b); replace BX0 := Lib.hid (BX0.out.below b); replace ox0 := ox0.below b; replace oz0 := oz0.below b; clear b))
  obtain ⟨zBP0, fBP00, fBP01, fBP02⟩ := BP0.out
  obtain ⟨zBX0, fBX00, fBX01, fBX02⟩ := BX0.out
  clear oz0
  go_wp2_with fail
  go_ret
  exact ⟨rfl, B⟩
end Go.Proofs.Ytmfeabfbhaiaeaa
