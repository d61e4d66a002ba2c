/- IsGenericHere of both sides. No condition but sizes. -/
import Derived.Test.YtmfeabfbhaiaeaaFrk
import Derived.Test.YtmfeabfbhaiaeaaSpB
import Derived.Deep.RegionHeld3
namespace Go.Proofs.Ytmfeabfbhaiaeaa
open Go.RowKit
set_option maxRecDepth 100000
set_option linter.unusedVariables false
set_option linter.unusedSimpArgs false

def genB (f : FwT) : Bool := isFwB f && (frkF f == rankG (f.1, f.2.1) 2 3)

set_option maxHeartbeats 4000000 in
theorem specGen_at (W : World) (p : Int) (a : Option Addr) (cap : Nat) (l : List BarT) (c : Option Addr) (capc : Nat) (q : List PlaceT) (h : BarsAt W a l.length l) (hq : PlacesAt W c q.length q) (hs : l.length + q.length ≤ 1048576) :
    Calls Try.prog 9 #[.agg #[.int .i64 p, .slice a l.length cap, .slice c q.length capc]] W fun e w' => e = .returned (.bool (genB (p, l, q))) ∧ Below W.heap.size W w' := by
  have hwd := @Wd.cells
  have HFw : Hid (IsFw W (.agg #[.int .i64 p, .slice a l.length cap, .slice c q.length capc]) (p, l, q)) := Lib.hid ⟨a, cap, c, capc, rfl, h, hq⟩
  have H1 := Lib.hid h
  have H2 := Lib.hid hq
  clear h hq
  have hsz : szFw (p, l, q) ≤ 1048576 := hs
  have hs1 : l.length ≤ 1048576 := by omega
  have hs2 : q.length ≤ 1048576 := by omega
  have B : Below W.heap.size W (W.alloc (.cells #[.int .i64 p, .slice a l.length cap, .slice c q.length capc] 35)) := (Below.refl _ _).alloc (Nat.le_refl _) _
  have BX : Hid (BoxFw (W.alloc (.cells #[.int .i64 p, .slice a l.length cap, .slice c q.length capc] 35)) W.heap.size p a l.length cap c q.length capc) := Lib.hid (BoxFw.at rfl)
  cases hf : isFwB (p, l, q)
  · have HE := Lib.hid (ret_bool (show genB (p, l, q) = false by unfold genB; rw [hf]; rfl))
    obtain ⟨zBX, fBX0, fBX1, fBX2⟩ := BX.out
    have cF : ∀ n : Wd (W.alloc (.cells #[.int .i64 p, .slice a l.length cap, .slice c q.length capc] 35)), Calls Try.prog 35 #[.agg #[.int .i64 p, .slice a l.length cap, .slice c q.length capc]] n.w fun e w' => e = .returned (.bool false) ∧ Below n.w.heap.size n.w w' := fun n => by
      have := spec_IsFramework _ _ (p, l, q) (HFw.out.below (B.step n.h)) hsz
      rwa [hf] at this
    have HC := Lib.hid cF
    clear cF
    go_enter Try.func9, Try.ntmps9
    go_wp2_with fail
    refine wp_region_wd (by kernel_rfl) (by kernel_rfl) ?_
    repeat (go_big_quiet_step (first | (go_at_call 35; exact Calls.wd_of (HC.out _))))
    refine wpQuiet_nil ?_
    intro n1
    have B := B.step n1.h
    go_wp2_with fail
    go_ret
    exact ⟨HE.out.symm, B⟩
  obtain ⟨R, hR⟩ : ∃ R, R = frkF (p, l, q) := ⟨_, rfl⟩
  obtain ⟨K, hK⟩ : ∃ K, K = rankG (p, l) 2 3 := ⟨_, rfl⟩
  have HE := Lib.hid (ret_bool (show genB (p, l, q) = (R == K) by unfold genB; rw [hf, Bool.true_and, hR, hK]))
  obtain ⟨zBX, fBX0, fBX1, fBX2⟩ := BX.out
  have cF : ∀ n : Wd (W.alloc (.cells #[.int .i64 p, .slice a l.length cap, .slice c q.length capc] 35)), Calls Try.prog 35 #[.agg #[.int .i64 p, .slice a l.length cap, .slice c q.length capc]] n.w fun e w' => e = .returned (.bool true) ∧ Below n.w.heap.size n.w w' := fun n => by
    have := spec_IsFramework _ _ (p, l, q) (HFw.out.below (B.step n.h)) hsz
    rwa [hf] at this
  have HC := Lib.hid cF
  have cR : ∀ n : Wd (W.alloc (.cells #[.int .i64 p, .slice a l.length cap, .slice c q.length capc] 35)), Calls Try.prog 36 #[.agg #[.int .i64 p, .slice a l.length cap, .slice c q.length capc]] n.w fun e w' => e = .returned (.int .i64 R) ∧ Below n.w.heap.size n.w w' := fun n => by
    rw [hR]
    exact specFrk_at _ _ _ _ _ _ _ _ (H1.out.below (B.step n.h)) (H2.out.below (B.step n.h)) hs
  have HCR := Lib.hid cR
  have cK : ∀ n : Wd (W.alloc (.cells #[.int .i64 p, .slice a l.length cap, .slice c q.length capc] 35)), Calls Try.prog 37 #[.agg #[.int .i64 p, .slice a l.length cap], .int .i64 2, .int .i64 3] n.w fun e w' => e = .returned (.int .i64 K) ∧ Below n.w.heap.size n.w w' := fun n => by
    rw [hK]
    exact specRank_at _ _ _ _ _ (H1.out.below (B.step n.h)) (by omega) 2 3
  have HCK := Lib.hid cK
  clear cF cR cK hR hK
  go_enter Try.func9, Try.ntmps9
  go_wp2_with fail
  refine wp_region_wd (by kernel_rfl) (by kernel_rfl) ?_
  repeat (go_big_quiet_step (first | (go_at_call 35; exact Calls.wd_of (HC.out _)) | (go_at_call 36; exact Calls.wd_of (HCR.out _)) | (go_at_call 37; exact Calls.wd_of (HCK.out _))))
  refine wpQuiet_nil ?_
  intro n1
  have B := B.step n1.h
  go_wp2_with fail
  go_ret
  exact ⟨HE.out.symm, B⟩

set_option maxHeartbeats 4000000 in
theorem implGen_at (W : World) (p : Int) (a : Option Addr) (cap : Nat) (l : List BarT) (c : Option Addr) (capc : Nat) (q : List PlaceT) (h : BarsAt W a l.length l) (hq : PlacesAt W c q.length q) (hs : l.length + q.length ≤ 1048576) :
    Calls Try.prog 11 #[.agg #[.int .i64 p, .slice a l.length cap, .slice c q.length capc]] W fun e w' => e = .returned (.bool (genB (p, l, q))) ∧ Below W.heap.size W w' := by
  have hwd := @Wd.cells
  have HFw : Hid (IsFw W (.agg #[.int .i64 p, .slice a l.length cap, .slice c q.length capc]) (p, l, q)) := Lib.hid ⟨a, cap, c, capc, rfl, h, hq⟩
  have H1 := Lib.hid h
  have H2 := Lib.hid hq
  clear h hq
  have hsz : szFw (p, l, q) ≤ 1048576 := hs
  have hs1 : l.length ≤ 1048576 := by omega
  have hs2 : q.length ≤ 1048576 := by omega
  have B : Below W.heap.size W (W.alloc (.cells #[.int .i64 p, .slice a l.length cap, .slice c q.length capc] 35)) := (Below.refl _ _).alloc (Nat.le_refl _) _
  have BX : Hid (BoxFw (W.alloc (.cells #[.int .i64 p, .slice a l.length cap, .slice c q.length capc] 35)) W.heap.size p a l.length cap c q.length capc) := Lib.hid (BoxFw.at rfl)
  cases hf : isFwB (p, l, q)
  · have HE := Lib.hid (ret_bool (show genB (p, l, q) = false by unfold genB; rw [hf]; rfl))
    obtain ⟨zBX, fBX0, fBX1, fBX2⟩ := BX.out
    have cF : ∀ n : Wd (W.alloc (.cells #[.int .i64 p, .slice a l.length cap, .slice c q.length capc] 35)), Calls Try.prog 39 #[.agg #[.int .i64 p, .slice a l.length cap, .slice c q.length capc]] n.w fun e w' => e = .returned (.bool false) ∧ Below n.w.heap.size n.w w' := fun n => by
      have := impl_IsFramework _ _ (p, l, q) (HFw.out.below (B.step n.h)) hsz
      rwa [hf] at this
    have HC := Lib.hid cF
    clear cF
    go_enter Try.func11, Try.ntmps11
    go_wp2_with fail
    refine wp_region_wd (by kernel_rfl) (by kernel_rfl) ?_
    repeat (go_big_quiet_step (first | (go_at_call 39; exact Calls.wd_of (HC.out _))))
    refine wpQuiet_nil ?_
    intro n1
    have B := B.step n1.h
    go_wp2_with fail
    go_ret
    exact ⟨HE.out.symm, B⟩
  obtain ⟨R, hR⟩ : ∃ R, R = frkF (p, l, q) := ⟨_, rfl⟩
  obtain ⟨K, hK⟩ : ∃ K, K = rankG (p, l) 2 3 := ⟨_, rfl⟩
  have HE := Lib.hid (ret_bool (show genB (p, l, q) = (R == K) by unfold genB; rw [hf, Bool.true_and, hR, hK]))
  obtain ⟨zBX, fBX0, fBX1, fBX2⟩ := BX.out
  have cF : ∀ n : Wd (W.alloc (.cells #[.int .i64 p, .slice a l.length cap, .slice c q.length capc] 35)), Calls Try.prog 39 #[.agg #[.int .i64 p, .slice a l.length cap, .slice c q.length capc]] n.w fun e w' => e = .returned (.bool true) ∧ Below n.w.heap.size n.w w' := fun n => by
    have := impl_IsFramework _ _ (p, l, q) (HFw.out.below (B.step n.h)) hsz
    rwa [hf] at this
  have HC := Lib.hid cF
  have cR : ∀ n : Wd (W.alloc (.cells #[.int .i64 p, .slice a l.length cap, .slice c q.length capc] 35)), Calls Try.prog 40 #[.agg #[.int .i64 p, .slice a l.length cap, .slice c q.length capc]] n.w fun e w' => e = .returned (.int .i64 R) ∧ Below n.w.heap.size n.w w' := fun n => by
    rw [hR]
    exact implFrk_at _ _ _ _ _ _ _ _ (H1.out.below (B.step n.h)) (H2.out.below (B.step n.h)) hs
  have HCR := Lib.hid cR
  have cK : ∀ n : Wd (W.alloc (.cells #[.int .i64 p, .slice a l.length cap, .slice c q.length capc] 35)), Calls Try.prog 41 #[.agg #[.int .i64 p, .slice a l.length cap], .int .i64 2, .int .i64 3] n.w fun e w' => e = .returned (.int .i64 K) ∧ Below n.w.heap.size n.w w' := fun n => by
    rw [hK]
    exact implRank_at _ _ _ _ _ (H1.out.below (B.step n.h)) (by omega) 2 3
  have HCK := Lib.hid cK
  clear cF cR cK hR hK
  go_enter Try.func11, Try.ntmps11
  go_wp2_with fail
  refine wp_region_wd (by kernel_rfl) (by kernel_rfl) ?_
  repeat (go_big_quiet_step (first | (go_at_call 39; exact Calls.wd_of (HC.out _)) | (go_at_call 40; exact Calls.wd_of (HCR.out _)) | (go_at_call 41; exact Calls.wd_of (HCK.out _))))
  refine wpQuiet_nil ?_
  intro n1
  have B := B.step n1.h
  go_wp2_with fail
  go_ret
  exact ⟨HE.out.symm, B⟩

theorem spec_IsGenericHere (W : World) (v : Value) (f : FwT) (h : IsFw W v f) (hs : szFw f ≤ 1048576) : Calls Try.prog 9 #[v] W fun e w' => e = .returned (.bool (genB f)) ∧ Below W.heap.size W w' := by
  obtain ⟨p, l, q⟩ := f
  obtain ⟨a, cap, c, capc, rfl, hi, hj⟩ := h
  exact specGen_at W p a cap l c capc q hi hj hs
theorem impl_IsGenericHere (W : World) (v : Value) (f : FwT) (h : IsFw W v f) (hs : szFw f ≤ 1048576) : Calls Try.prog 11 #[v] W fun e w' => e = .returned (.bool (genB f)) ∧ Below W.heap.size W w' := by
  obtain ⟨p, l, q⟩ := f
  obtain ⟨a, cap, c, capc, rfl, hi, hj⟩ := h
  exact implGen_at W p a cap l c capc q hi hj hs
end Go.Proofs.Ytmfeabfbhaiaeaa
