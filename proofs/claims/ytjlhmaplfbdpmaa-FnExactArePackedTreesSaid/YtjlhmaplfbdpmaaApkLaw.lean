/- The law FnExactArePackedTrees returns true: the walk, written by lawwalk2.py. No condition. -/
import Derived.Test.YtjlhmaplfbdpmaaApi
import Derived.Test.YtjlhmaplfbdpmaaRdFw
import Derived.Test.YtjlhmaplfbdpmaaRdInt
import Derived.Test.YtjlhmaplfbdpmaaRdIntss
import Derived.Deep.RegionHeld3
namespace Go.Proofs.Ytjlhmaplfbdpmaa
open Go.RowKit
set_option maxRecDepth 100000
set_option linter.unusedVariables false
set_option linter.unusedSimpArgs false

set_option maxHeartbeats 8000000 in
theorem walkFnExactArePackedTrees (W : World) (v0 : Value) (x0 : GraphT) (r0 : IsGraph W v0 x0) (ok0 : OkGraph x0) (v1 : Value) (x1 : Int) (r1 : IsInt W v1 x1) (ok1 : OkInt x1) (v2 : Value) (x2 : List (List Int)) (r2 : IsIntss W v2 x2) (ok2 : OkIntss x2) :
    Calls Try.prog 4 #[v0, v1, v2] W fun e w' => e = .returned (.bool true) ∧ Below W.heap.size W w' := by
  obtain ⟨p0, l0⟩ := x0
  obtain ⟨a0, cap0, rfl, hi0⟩ := r0
  dsimp only at hi0
  have R0 : Hid (IsGraph W (.agg #[.int .i64 p0, .slice a0 l0.length cap0]) (p0, l0)) := Lib.hid ⟨a0, cap0, rfl, hi0⟩
  clear hi0
  obtain rfl := r1
  have R2 := Lib.hid r2
  clear r2
  dsimp only
  have BP0 : Hid (BoxGr (W.alloc (.cells #[.int .i64 p0, .slice a0 l0.length cap0] 24)) (W.heap.size) p0 a0 l0.length cap0) := Lib.hid (BoxGr.at (by simp))
  have BB : Below W.heap.size W (W.alloc (.cells #[.int .i64 p0, .slice a0 l0.length cap0] 24)) := (Below.refl W.heap.size W).alloc (by simp <;> omega) _
  have hzu : (W.alloc (.cells #[.int .i64 p0, .slice a0 l0.length cap0] 24)).heap.size = W.heap.size + 1 := by simp
  by_cases hbig0 : 1048576 < szGraph (p0, l0)
  · go_enter Try.func4, Try.ntmps4
    have B := BB
    go_wp2_with fail
    generalize (W.alloc (.cells #[.int .i64 p0, .slice a0 l0.length cap0] 24)) = u0 at *
    obtain ⟨zBP0, fBP00, fBP01⟩ := BP0.out
    refine (szGraph_h _ _ (p0, l0) (1048576) (R0.out.below B) ok0 (by omega) (by omega)).mono ?_
    rintro e w1 ⟨rfl, b⟩
    have hzw1 := b.size
    clear zBP0 fBP00 fBP01
    replace B := B.step b
    replace BP0 := Lib.hid (BP0.out.below b)
    clear b
    obtain ⟨zBP0, fBP00, fBP01⟩ := BP0.out
    rw [szRes_pos (by omega)]
    go_wp2_with fail
    go_ret
    exact ⟨rfl, B⟩
  by_cases hbig1 : 1048576 < szGraph (p0, l0) + szIntss x2
  · go_enter Try.func4, Try.ntmps4
    have B := BB
    go_wp2_with fail
    generalize (W.alloc (.cells #[.int .i64 p0, .slice a0 l0.length cap0] 24)) = u0 at *
    obtain ⟨zBP0, fBP00, fBP01⟩ := BP0.out
    refine (szGraph_h _ _ (p0, l0) (1048576) (R0.out.below B) ok0 (by omega) (by omega)).mono ?_
    rintro e w1 ⟨rfl, b⟩
    have hzw1 := b.size
    clear zBP0 fBP00 fBP01
    replace B := B.step b
    replace BP0 := Lib.hid (BP0.out.below b)
    clear b
    obtain ⟨zBP0, fBP00, fBP01⟩ := BP0.out
    rw [szRes_neg (by omega)]
    go_wp2_with fail
    refine (szIntss_h _ _ x2 (1048576 - ((szGraph (p0, l0) : Nat) : Int)) (R2.out.below B) ok2 (by omega) (by omega)).mono ?_
    rintro e w2 ⟨rfl, b⟩
    have hzw2 := b.size
    clear zBP0 fBP00 fBP01
    replace B := B.step b
    replace BP0 := Lib.hid (BP0.out.below b)
    clear b
    obtain ⟨zBP0, fBP00, fBP01⟩ := BP0.out
    rw [szRes_pos (by omega)]
    go_wp2_with fail
    go_ret
    exact ⟨rfl, B⟩
  have hsm0 : szGraph (p0, l0) ≤ 1048576 := by omega
  have hsm2 : szIntss x2 ≤ 1048576 := by omega
  go_enter Try.func4, Try.ntmps4
  have B := BB
  go_wp2_with fail
  generalize (W.alloc (.cells #[.int .i64 p0, .slice a0 l0.length cap0] 24)) = u0 at *
  obtain ⟨zBP0, fBP00, fBP01⟩ := BP0.out
  refine (szGraph_h _ _ (p0, l0) (1048576) (R0.out.below B) ok0 (by omega) (by omega)).mono ?_
  rintro e w1 ⟨rfl, b⟩
  have hzw1 := b.size
  clear zBP0 fBP00 fBP01
  replace B := B.step b
  replace BP0 := Lib.hid (BP0.out.below b)
  clear b
  obtain ⟨zBP0, fBP00, fBP01⟩ := BP0.out
  rw [szRes_neg (by omega)]
  go_wp2_with fail
  refine (szIntss_h _ _ x2 (1048576 - ((szGraph (p0, l0) : Nat) : Int)) (R2.out.below B) ok2 (by omega) (by omega)).mono ?_
  rintro e w2 ⟨rfl, b⟩
  have hzw2 := b.size
  clear zBP0 fBP00 fBP01
  replace B := B.step b
  replace BP0 := Lib.hid (BP0.out.below b)
  clear b
  obtain ⟨zBP0, fBP00, fBP01⟩ := BP0.out
  rw [szRes_neg (by omega)]
  go_wp2_with fail
  refine (toGraph_h _ _ (p0, l0) (R0.out.below B) hsm0).mono ?_
  rintro e w3 ⟨ya0, rfl, o0, b⟩
  have hzw3 := b.size
  clear zBP0 fBP00 fBP01
  replace B := B.step b
  replace BP0 := Lib.hid (BP0.out.below b)
  clear b
  have oa0 := o0.h
  clear o0
  obtain ⟨zBP0, fBP00, fBP01⟩ := BP0.out
  go_wp2_with fail
  refine (toIntss_h _ _ x2 (R2.out.below B) hsm2).mono ?_
  rintro e w4 ⟨ya2, rfl, o0, b⟩
  have hzw4 := b.size
  clear zBP0 fBP00 fBP01
  replace B := B.step b
  replace BP0 := Lib.hid (BP0.out.below b)
  replace oa0 := oa0.below b
  clear b
  have oa2 := o0.h
  clear o0
  obtain ⟨zBP0, fBP00, fBP01⟩ := BP0.out
  go_wp2_with fail
  refine (spec_ArePackedTrees _ _ (p0, l0) oa0.is _ _ x2 oa2.is hsm0 hsm2).mono ?_
  rintro e w5 ⟨rfl, b⟩
  have hzw5 := b.size
  clear zBP0 fBP00 fBP01
  replace B := B.step b
  replace BP0 := Lib.hid (BP0.out.below b)
  replace oa0 := oa0.below b
  replace oa2 := oa2.below b
  clear b
  obtain ⟨zBP0, fBP00, fBP01⟩ := BP0.out
  clear oa0
  clear oa2
  go_wp2_with fail
  refine (toGraph_h _ _ (p0, l0) (R0.out.below B) hsm0).mono ?_
  rintro e w6 ⟨yx, rfl, o0, b⟩
  obtain ⟨vb, ⟨ab0, cb0, rfl, rfl⟩, ob⟩ := o0.h
  clear o0
  have hzw6 := b.size
  clear zBP0 fBP00 fBP01
  replace B := B.step b
  replace BP0 := Lib.hid (BP0.out.below b)
  clear b
  have ox0 : HGraph w6 w5.heap.size w6.heap.size (.agg #[.int .i64 p0, .slice ab0 l0.length cb0]) (p0, l0) := ⟨_, ⟨ab0, cb0, rfl, rfl⟩, ob⟩
  clear ob
  dsimp only
  obtain ⟨zBP0, fBP00, fBP01⟩ := BP0.out
  go_wp2_with fail
  clear zBP0 fBP00 fBP01
  have ba : Below w6.heap.size w6 (w6.alloc (.cells #[.int .i64 p0, .slice ab0 l0.length cb0] 31)) := (Below.refl _ _).alloc (Nat.le_refl _) _
  have hzu6 : (w6.alloc (.cells #[.int .i64 p0, .slice ab0 l0.length cb0] 31)).heap.size ≤ w6.heap.size + 1 := by simp
  have hyu6 : w6.heap.size + 1 ≤ (w6.alloc (.cells #[.int .i64 p0, .slice ab0 l0.length cb0] 31)).heap.size := by simp
  replace B := B.step ba
  replace BP0 := Lib.hid (BP0.out.below ba)
  replace ox0 := ox0.below ba
  clear ba
  have BX0 : Hid (BoxGr (w6.alloc (.cells #[.int .i64 p0, .slice ab0 l0.length cb0] 31)) (w6.heap.size) p0 ab0 l0.length cb0) := Lib.hid (BoxGr.at rfl)
  generalize (w6.alloc (.cells #[.int .i64 p0, .slice ab0 l0.length cb0] 31)) = u6 at *
  obtain ⟨zBP0, fBP00, fBP01⟩ := BP0.out
  obtain ⟨zBX0, fBX00, fBX01⟩ := BX0.out
  refine (toIntss_h _ _ x2 (R2.out.below B) hsm2).mono ?_
  rintro e w7 ⟨yx2, rfl, o0, b⟩
  have hzw7 := b.size
  clear zBP0 fBP00 fBP01 zBX0 fBX00 fBX01
  replace B := B.step b
  replace BP0 := Lib.hid (BP0.out.below b)
  replace BX0 := Lib.hid (BX0.out.below b)
  replace ox0 := ox0.below b
  clear b
  have ox2 := o0.h
  clear o0
  obtain ⟨zBP0, fBP00, fBP01⟩ := BP0.out
  obtain ⟨zBX0, fBX00, fBX01⟩ := BX0.out
  go_wp2_with fail
  refine (impl_ArePackedTrees _ _ (p0, l0) ox0.is _ _ x2 ox2.is hsm0 hsm2).mono ?_
  rintro e w8 ⟨rfl, b⟩
  have hzw8 := b.size
  clear zBP0 fBP00 fBP01 zBX0 fBX00 fBX01
  replace B := B.step b
  replace BP0 := Lib.hid (BP0.out.below b)
  replace BX0 := Lib.hid (BX0.out.below b)
  replace ox0 := ox0.below b
  replace ox2 := ox2.below b
  clear b
  obtain ⟨zBP0, fBP00, fBP01⟩ := BP0.out
  obtain ⟨zBX0, fBX00, fBX01⟩ := BX0.out
  go_wp2_with fail
  have bd : Below w8.heap.size w8 w8.drew := (Below.refl _ _).drew
  have hzd8 := bd.size
  clear zBP0 fBP00 fBP01 zBX0 fBX00 fBX01
  replace B := B.step bd
  replace BP0 := Lib.hid (BP0.out.below bd)
  replace BX0 := Lib.hid (BX0.out.below bd)
  replace ox0 := ox0.below bd
  replace ox2 := ox2.below bd
  clear bd
  have tk1 := True.intro
  have tk2 := True.intro
  go_region_held3 (fun w' => w'.cell? ⟨W.heap.size, 0, none⟩ = some (.int .i64 p0) ∧ w'.cell? ⟨W.heap.size, 1, none⟩ = some (.slice a0 l0.length cap0) ∧ w'.cell? ⟨w6.heap.size, 0, none⟩ = some (.int .i64 p0) ∧ w'.cell? ⟨w6.heap.size, 1, none⟩ = some (.slice ab0 l0.length cb0))
    (with_reducible exact ⟨BP0.out.c0, BP0.out.c1, BX0.out.c0, BX0.out.c1⟩)
    (first
      | (clear tk1; go_at_call 7; refine (toGraph_h _ _ (p0, l0) (R0.out.below B) hsm0).mono ?_; rintro e w9 ⟨yz0, rfl, o0, b⟩; have hzw9 := b.size; replace B := B.step b; replace BP0 := Lib.hid (BP0.out.below b); replace BX0 := Lib.hid (BX0.out.below b); replace ox0 := ox0.below b; replace ox2 := ox2.below b; clear b; have oz0 := o0.h; clear o0)
      | (clear tk2; go_at_call 10; refine (eqGraph_h _ _ _ _ ox0.is oz0.is (by omega)).mono ?_; rintro e w10 ⟨rfl, b⟩; have hzw10 := b.size; replace B := B.step b; replace BP0 := Lib.hid (BP0.out.below b); replace BX0 := Lib.hid (BX0.out.below b); replace ox0 := ox0.below b; replace ox2 := ox2.below b; replace oz0 := oz0.below b; clear b))
  obtain ⟨zBP0, fBP00, fBP01⟩ := BP0.out
  obtain ⟨zBX0, fBX00, fBX01⟩ := BX0.out
  clear oz0
  go_wp2_with fail
  refine (toIntss_h _ _ x2 (R2.out.below B) hsm2).mono ?_
  rintro e w11 ⟨yz2, rfl, o0, b⟩
  have hzw11 := b.size
  clear zBP0 fBP00 fBP01 zBX0 fBX00 fBX01
  replace B := B.step b
  replace BP0 := Lib.hid (BP0.out.below b)
  replace BX0 := Lib.hid (BX0.out.below b)
  replace ox0 := ox0.below b
  replace ox2 := ox2.below b
  clear b
  have oz2 := o0.h
  clear o0
  obtain ⟨zBP0, fBP00, fBP01⟩ := BP0.out
  obtain ⟨zBX0, fBX00, fBX01⟩ := BX0.out
  go_wp2_with fail
  refine (eqIntss_h _ _ _ _ ox2.is oz2.is (by omega)).mono ?_
  rintro e w12 ⟨rfl, b⟩
  have hzw12 := b.size
  clear zBP0 fBP00 fBP01 zBX0 fBX00 fBX01
  replace B := B.step b
  replace BP0 := Lib.hid (BP0.out.below b)
  replace BX0 := Lib.hid (BX0.out.below b)
  replace ox0 := ox0.below b
  replace ox2 := ox2.below b
  replace oz2 := oz2.below b
  clear b
  obtain ⟨zBP0, fBP00, fBP01⟩ := BP0.out
  obtain ⟨zBX0, fBX00, fBX01⟩ := BX0.out
  clear oz2
  go_wp2_with fail
  go_ret
  exact ⟨rfl, B⟩
end Go.Proofs.Ytjlhmaplfbdpmaa
