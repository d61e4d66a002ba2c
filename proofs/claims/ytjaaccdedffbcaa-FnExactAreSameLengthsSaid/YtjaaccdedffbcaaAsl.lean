/- AreSameLengths of the reference and of the program. No condition but sizes. -/
import Derived.Test.YtjaaccdedffbcaaSq2
import Derived.Test.YtjaaccdedffbcaaEqf
import Derived.Test.YtjaaccdedffbcaaSame
import Derived.Test.YtjaaccdedffbcaaBox
import Derived.Deep.RegionHeld3
namespace Go.Proofs.Ytjaaccdedffbcaa
open Go.RowKit
set_option linter.unusedVariables false
set_option linter.unusedSimpArgs false

def aslB (f g : FwT) : Bool := isFwB f && (isFwB g && ((f.1 == g.1 && decide (f.2.1 = g.2.1)) && decide (squares f = squares g)))

set_option maxHeartbeats 8000000 in
theorem specAsl_at (W : World) (p : Int) (a : Option Addr) (cap : Nat) (l : List BarT) (c : Option Addr) (capc : Nat) (q : List PlaceT) (h : BarsAt W a l.length l) (hq : PlacesAt W c q.length q) (hs : l.length + q.length ≤ 1048576)
    (p' : Int) (a' : Option Addr) (cap' : Nat) (l' : List BarT) (c' : Option Addr) (capc' : Nat) (q' : List PlaceT) (h' : BarsAt W a' l'.length l') (hq' : PlacesAt W c' q'.length q') (hs' : l'.length + q'.length ≤ 1048576) :
    Calls Try.prog 39 #[.agg #[.int .i64 p, .slice a l.length cap, .slice c q.length capc], .agg #[.int .i64 p', .slice a' l'.length cap', .slice c' q'.length capc']] W fun e w' => e = .returned (.bool (aslB (p, l, q) (p', l', q'))) ∧ Below W.heap.size W w' := by
  have R0 : Hid (IsFw W (.agg #[.int .i64 p, .slice a l.length cap, .slice c q.length capc]) (p, l, q)) := Lib.hid ⟨a, cap, c, capc, rfl, h, hq⟩
  have R1 : Hid (IsFw W (.agg #[.int .i64 p', .slice a' l'.length cap', .slice c' q'.length capc']) (p', l', q')) := Lib.hid ⟨a', cap', c', capc', rfl, h', hq'⟩
  have G0 := Lib.hid h
  have G1 := Lib.hid h'
  clear h hq h' hq'
  have hsm0 : szFw (p, l, q) ≤ 1048576 := hs
  have hsm1 : szFw (p', l', q') ≤ 1048576 := hs'
  have hsl : l.length ≤ 1099511627776 := by omega
  have hq0 := squares_le (p, l, q)
  have B : Below W.heap.size W ((W.alloc (.cells #[.int .i64 p, .slice a l.length cap, .slice c q.length capc] 47)).alloc (.cells #[.int .i64 p', .slice a' l'.length cap', .slice c' q'.length capc'] 47)) := ((Below.refl W.heap.size W).alloc (by simp) _).alloc (by simp) _
  have BX0 : Hid (BoxFw ((W.alloc (.cells #[.int .i64 p, .slice a l.length cap, .slice c q.length capc] 47)).alloc (.cells #[.int .i64 p', .slice a' l'.length cap', .slice c' q'.length capc'] 47)) W.heap.size p a l.length cap c q.length capc) := Lib.hid ((BoxFw.at (by simp)).below ((Below.refl _ _).alloc (Nat.le_refl _) _))
  have BX1 : Hid (BoxFw ((W.alloc (.cells #[.int .i64 p, .slice a l.length cap, .slice c q.length capc] 47)).alloc (.cells #[.int .i64 p', .slice a' l'.length cap', .slice c' q'.length capc'] 47)) (W.heap.size + 1) p' a' l'.length cap' c' q'.length capc') := Lib.hid (BoxFw.at (by simp))
  cases hf0 : isFwB (p, l, q)
  · skip
    have HE := Lib.hid (ret_bool (show aslB (p, l, q) (p', l', q') = false by simp only [aslB, hf0, Bool.false_and]))
    have hwd := @Wd.cells
    go_enter Try.func39, Try.ntmps39
    go_wp2_with fail
    generalize ((W.alloc (.cells #[.int .i64 p, .slice a l.length cap, .slice c q.length capc] 47)).alloc (.cells #[.int .i64 p', .slice a' l'.length cap', .slice c' q'.length capc'] 47)) = u at *
    obtain ⟨z0, f00, f01, f02⟩ := BX0.out
    obtain ⟨z1, f10, f11, f12⟩ := BX1.out
    have cF0 := fun n : Wd u => spec_IsFramework n.w _ (p, l, q) (R0.out.below (B.step n.h)) hsm0
    simp only [hf0] at cF0
    refine wp_region_wd (by kernel_rfl) (by kernel_rfl) ?_
    repeat (go_big_quiet_step ((first
        | (go_at_call 35; with_reducible exact Calls.wd_of (cF0 _)))))
    refine wpQuiet_nil ?_
    intro n1
    have B1 := B.step n1.h
    go_wp2_with fail
    go_ret
    exact ⟨HE.out.symm, B1⟩
  cases hf1 : isFwB (p', l', q')
  · skip
    have HE := Lib.hid (ret_bool (show aslB (p, l, q) (p', l', q') = false by simp only [aslB, hf1, Bool.false_and, Bool.and_false]))
    have hwd := @Wd.cells
    go_enter Try.func39, Try.ntmps39
    go_wp2_with fail
    generalize ((W.alloc (.cells #[.int .i64 p, .slice a l.length cap, .slice c q.length capc] 47)).alloc (.cells #[.int .i64 p', .slice a' l'.length cap', .slice c' q'.length capc'] 47)) = u at *
    obtain ⟨z0, f00, f01, f02⟩ := BX0.out
    obtain ⟨z1, f10, f11, f12⟩ := BX1.out
    have cF0 := fun n : Wd u => spec_IsFramework n.w _ (p, l, q) (R0.out.below (B.step n.h)) hsm0
    simp only [hf0] at cF0
    have cF1 := fun n : Wd u => spec_IsFramework n.w _ (p', l', q') (R1.out.below (B.step n.h)) hsm1
    simp only [hf1] at cF1
    refine wp_region_wd (by kernel_rfl) (by kernel_rfl) ?_
    repeat (go_big_quiet_step ((first
        | (go_at_call 35; with_reducible exact Calls.wd_of (cF0 _))
        | (go_at_call 35; with_reducible exact Calls.wd_of (cF1 _)))))
    refine wpQuiet_nil ?_
    intro n1
    have B1 := B.step n1.h
    go_wp2_with fail
    go_ret
    exact ⟨HE.out.symm, B1⟩
  cases hf2 : (p == p' && decide (l = l'))
  · skip
    have HE := Lib.hid (ret_bool (show aslB (p, l, q) (p', l', q') = false by simp only [aslB, hf2, Bool.false_and, Bool.and_false]))
    have hwd := @Wd.cells
    go_enter Try.func39, Try.ntmps39
    go_wp2_with fail
    generalize ((W.alloc (.cells #[.int .i64 p, .slice a l.length cap, .slice c q.length capc] 47)).alloc (.cells #[.int .i64 p', .slice a' l'.length cap', .slice c' q'.length capc'] 47)) = u at *
    obtain ⟨z0, f00, f01, f02⟩ := BX0.out
    obtain ⟨z1, f10, f11, f12⟩ := BX1.out
    have cF0 := fun n : Wd u => spec_IsFramework n.w _ (p, l, q) (R0.out.below (B.step n.h)) hsm0
    simp only [hf0] at cF0
    have cF1 := fun n : Wd u => spec_IsFramework n.w _ (p', l', q') (R1.out.below (B.step n.h)) hsm1
    simp only [hf1] at cF1
    have cG := fun n : Wd u => specEqG_any n.w p p' a a' cap cap' l l' (G0.out.below (B.step n.h)) (G1.out.below (B.step n.h)) hsl
    simp only [hf2] at cG
    refine wp_region_wd (by kernel_rfl) (by kernel_rfl) ?_
    repeat (go_big_quiet_step ((first
        | (go_at_call 35; with_reducible exact Calls.wd_of (cF0 _))
        | (go_at_call 35; with_reducible exact Calls.wd_of (cF1 _))
        | (go_at_call 65; with_reducible exact Calls.wd_of (cG _)))))
    refine wpQuiet_nil ?_
    intro n1
    have B1 := B.step n1.h
    go_wp2_with fail
    go_ret
    exact ⟨HE.out.symm, B1⟩
  have HE := Lib.hid (ret_bool (show aslB (p, l, q) (p', l', q') = decide (squares (p, l, q) = squares (p', l', q')) by simp only [aslB, hf0, hf1, hf2, Bool.true_and]))
  go_enter Try.func39, Try.ntmps39
  go_wp2_with fail
  generalize ((W.alloc (.cells #[.int .i64 p, .slice a l.length cap, .slice c q.length capc] 47)).alloc (.cells #[.int .i64 p', .slice a' l'.length cap', .slice c' q'.length capc'] 47)) = u at *
  have b : Below u.heap.size u u.drew := (Below.refl _ _).drew
  have hz := b.size
  replace B := B.step b
  replace BX0 := Lib.hid (BX0.out.below b)
  replace BX1 := Lib.hid (BX1.out.below b)
  clear b
  have tk1 := True.intro
  have tk2 := True.intro
  have tk3 := True.intro
  have tk4 := True.intro
  have tk5 := True.intro
  have tk6 := True.intro
  go_region_held3 (fun w' => w'.cell? ⟨W.heap.size, 0, none⟩ = some (.int .i64 p) ∧ w'.cell? ⟨W.heap.size, 1, none⟩ = some (.slice a l.length cap) ∧ w'.cell? ⟨W.heap.size, 2, none⟩ = some (.slice c q.length capc) ∧ w'.cell? ⟨W.heap.size + 1, 0, none⟩ = some (.int .i64 p') ∧ w'.cell? ⟨W.heap.size + 1, 1, none⟩ = some (.slice a' l'.length cap') ∧ w'.cell? ⟨W.heap.size + 1, 2, none⟩ = some (.slice c' q'.length capc'))
    (with_reducible exact ⟨BX0.out.c0, BX0.out.c1, BX0.out.c2, BX1.out.c0, BX1.out.c1, BX1.out.c2⟩)
    (first
      | (clear tk1; go_at_call 35; refine (spec_IsFramework _ _ (p, l, q) (R0.out.below B) hsm0).mono ?_; rintro e w1 ⟨rfl, b⟩; have hz1 := b.size; replace B := B.step b; replace BX0 := Lib.hid (BX0.out.below b); replace BX1 := Lib.hid (BX1.out.below b); clear b; rw [hf0])
      | (clear tk2; go_at_call 35; refine (spec_IsFramework _ _ (p', l', q') (R1.out.below B) hsm1).mono ?_; rintro e w2 ⟨rfl, b⟩; have hz2 := b.size; replace B := B.step b; replace BX0 := Lib.hid (BX0.out.below b); replace BX1 := Lib.hid (BX1.out.below b); clear b; rw [hf1])
      | (clear tk3; go_at_call 65; refine (specEqG_any _ p p' a a' cap cap' l l' (G0.out.below B) (G1.out.below B) hsl).mono ?_; rintro e w3 ⟨rfl, b⟩; have hz3 := b.size; replace B := B.step b; replace BX0 := Lib.hid (BX0.out.below b); replace BX1 := Lib.hid (BX1.out.below b); clear b; rw [hf2])
      | (clear tk4; go_at_call 43; refine (spec_SquareLengths _ _ (p, l, q) (R0.out.below B) hsm0).mono ?_; rintro e w4 ⟨y4, rfl, o4, b⟩; have hz4 := b.size; replace B := B.step b; replace BX0 := Lib.hid (BX0.out.below b); replace BX1 := Lib.hid (BX1.out.below b); (first | replace s5 := s5.below b | skip); have s4 : IsInts w4 y4 (squares (p, l, q)) := o4.form; clear b o4)
      | (clear tk5; go_at_call 43; refine (spec_SquareLengths _ _ (p', l', q') (R1.out.below B) hsm1).mono ?_; rintro e w5 ⟨y5, rfl, o5, b⟩; have hz5 := b.size; replace B := B.step b; replace BX0 := Lib.hid (BX0.out.below b); replace BX1 := Lib.hid (BX1.out.below b); (first | replace s4 := s4.below b | skip); have s5 : IsInts w5 y5 (squares (p', l', q')) := o5.form; clear b o5)
      | (clear tk6; go_at_call 78; refine (l6Same_is _ _ _ (squares (p, l, q)) (squares (p', l', q')) s4 s5 (by omega)).mono ?_; rintro e w6 ⟨rfl, b⟩; have hz6 := b.size; replace B := B.step b; replace BX0 := Lib.hid (BX0.out.below b); replace BX1 := Lib.hid (BX1.out.below b); clear b)
      | fail)
  all_goals
    go_wp2_with fail
    go_ret
    exact ⟨HE.out.symm, B⟩

theorem spec_AreSameLengths (W : World) (v0 : Value) (f : FwT) (h : IsFw W v0 f) (v1 : Value) (g : FwT) (h' : IsFw W v1 g) (hn : szFw f ≤ 1048576) (hn' : szFw g ≤ 1048576) :
    Calls Try.prog 39 #[v0, v1] W fun e w' => e = .returned (.bool (aslB f g)) ∧ Below W.heap.size W w' := by
  obtain ⟨p, l, q⟩ := f
  obtain ⟨a, cap, c, capc, rfl, hi, hj⟩ := h
  obtain ⟨p', l', q'⟩ := g
  obtain ⟨a', cap', c', capc', rfl, hi', hj'⟩ := h'
  exact specAsl_at _ _ _ _ _ _ _ _ hi hj hn _ _ _ _ _ _ _ hi' hj' hn'

set_option maxHeartbeats 8000000 in
theorem implAsl_at (W : World) (p : Int) (a : Option Addr) (cap : Nat) (l : List BarT) (c : Option Addr) (capc : Nat) (q : List PlaceT) (h : BarsAt W a l.length l) (hq : PlacesAt W c q.length q) (hs : l.length + q.length ≤ 1048576)
    (p' : Int) (a' : Option Addr) (cap' : Nat) (l' : List BarT) (c' : Option Addr) (capc' : Nat) (q' : List PlaceT) (h' : BarsAt W a' l'.length l') (hq' : PlacesAt W c' q'.length q') (hs' : l'.length + q'.length ≤ 1048576) :
    Calls Try.prog 40 #[.agg #[.int .i64 p, .slice a l.length cap, .slice c q.length capc], .agg #[.int .i64 p', .slice a' l'.length cap', .slice c' q'.length capc']] W fun e w' => e = .returned (.bool (aslB (p, l, q) (p', l', q'))) ∧ Below W.heap.size W w' := by
  have R0 : Hid (IsFw W (.agg #[.int .i64 p, .slice a l.length cap, .slice c q.length capc]) (p, l, q)) := Lib.hid ⟨a, cap, c, capc, rfl, h, hq⟩
  have R1 : Hid (IsFw W (.agg #[.int .i64 p', .slice a' l'.length cap', .slice c' q'.length capc']) (p', l', q')) := Lib.hid ⟨a', cap', c', capc', rfl, h', hq'⟩
  have G0 := Lib.hid h
  have G1 := Lib.hid h'
  clear h hq h' hq'
  have hsm0 : szFw (p, l, q) ≤ 1048576 := hs
  have hsm1 : szFw (p', l', q') ≤ 1048576 := hs'
  have hsl : l.length ≤ 1099511627776 := by omega
  have hq0 := squares_le (p, l, q)
  have B : Below W.heap.size W ((W.alloc (.cells #[.int .i64 p, .slice a l.length cap, .slice c q.length capc] 47)).alloc (.cells #[.int .i64 p', .slice a' l'.length cap', .slice c' q'.length capc'] 47)) := ((Below.refl W.heap.size W).alloc (by simp) _).alloc (by simp) _
  have BX0 : Hid (BoxFw ((W.alloc (.cells #[.int .i64 p, .slice a l.length cap, .slice c q.length capc] 47)).alloc (.cells #[.int .i64 p', .slice a' l'.length cap', .slice c' q'.length capc'] 47)) W.heap.size p a l.length cap c q.length capc) := Lib.hid ((BoxFw.at (by simp)).below ((Below.refl _ _).alloc (Nat.le_refl _) _))
  have BX1 : Hid (BoxFw ((W.alloc (.cells #[.int .i64 p, .slice a l.length cap, .slice c q.length capc] 47)).alloc (.cells #[.int .i64 p', .slice a' l'.length cap', .slice c' q'.length capc'] 47)) (W.heap.size + 1) p' a' l'.length cap' c' q'.length capc') := Lib.hid (BoxFw.at (by simp))
  cases hf0 : isFwB (p, l, q)
  · skip
    have HE := Lib.hid (ret_bool (show aslB (p, l, q) (p', l', q') = false by simp only [aslB, hf0, Bool.false_and]))
    have hwd := @Wd.cells
    go_enter Try.func40, Try.ntmps40
    go_wp2_with fail
    generalize ((W.alloc (.cells #[.int .i64 p, .slice a l.length cap, .slice c q.length capc] 47)).alloc (.cells #[.int .i64 p', .slice a' l'.length cap', .slice c' q'.length capc'] 47)) = u at *
    obtain ⟨z0, f00, f01, f02⟩ := BX0.out
    obtain ⟨z1, f10, f11, f12⟩ := BX1.out
    have cF0 := fun n : Wd u => impl_IsFramework n.w _ (p, l, q) (R0.out.below (B.step n.h)) hsm0
    simp only [hf0] at cF0
    refine wp_region_wd (by kernel_rfl) (by kernel_rfl) ?_
    repeat (go_big_quiet_step ((first
        | (go_at_call 36; with_reducible exact Calls.wd_of (cF0 _)))))
    refine wpQuiet_nil ?_
    intro n1
    have B1 := B.step n1.h
    go_wp2_with fail
    go_ret
    exact ⟨HE.out.symm, B1⟩
  cases hf1 : isFwB (p', l', q')
  · skip
    have HE := Lib.hid (ret_bool (show aslB (p, l, q) (p', l', q') = false by simp only [aslB, hf1, Bool.false_and, Bool.and_false]))
    have hwd := @Wd.cells
    go_enter Try.func40, Try.ntmps40
    go_wp2_with fail
    generalize ((W.alloc (.cells #[.int .i64 p, .slice a l.length cap, .slice c q.length capc] 47)).alloc (.cells #[.int .i64 p', .slice a' l'.length cap', .slice c' q'.length capc'] 47)) = u at *
    obtain ⟨z0, f00, f01, f02⟩ := BX0.out
    obtain ⟨z1, f10, f11, f12⟩ := BX1.out
    have cF0 := fun n : Wd u => impl_IsFramework n.w _ (p, l, q) (R0.out.below (B.step n.h)) hsm0
    simp only [hf0] at cF0
    have cF1 := fun n : Wd u => impl_IsFramework n.w _ (p', l', q') (R1.out.below (B.step n.h)) hsm1
    simp only [hf1] at cF1
    refine wp_region_wd (by kernel_rfl) (by kernel_rfl) ?_
    repeat (go_big_quiet_step ((first
        | (go_at_call 36; with_reducible exact Calls.wd_of (cF0 _))
        | (go_at_call 36; with_reducible exact Calls.wd_of (cF1 _)))))
    refine wpQuiet_nil ?_
    intro n1
    have B1 := B.step n1.h
    go_wp2_with fail
    go_ret
    exact ⟨HE.out.symm, B1⟩
  cases hf2 : (p == p' && decide (l = l'))
  · skip
    have HE := Lib.hid (ret_bool (show aslB (p, l, q) (p', l', q') = false by simp only [aslB, hf2, Bool.false_and, Bool.and_false]))
    have hwd := @Wd.cells
    go_enter Try.func40, Try.ntmps40
    go_wp2_with fail
    generalize ((W.alloc (.cells #[.int .i64 p, .slice a l.length cap, .slice c q.length capc] 47)).alloc (.cells #[.int .i64 p', .slice a' l'.length cap', .slice c' q'.length capc'] 47)) = u at *
    obtain ⟨z0, f00, f01, f02⟩ := BX0.out
    obtain ⟨z1, f10, f11, f12⟩ := BX1.out
    have cF0 := fun n : Wd u => impl_IsFramework n.w _ (p, l, q) (R0.out.below (B.step n.h)) hsm0
    simp only [hf0] at cF0
    have cF1 := fun n : Wd u => impl_IsFramework n.w _ (p', l', q') (R1.out.below (B.step n.h)) hsm1
    simp only [hf1] at cF1
    have cG := fun n : Wd u => implEqG_any n.w p p' a a' cap cap' l l' (G0.out.below (B.step n.h)) (G1.out.below (B.step n.h)) hsl
    simp only [hf2] at cG
    refine wp_region_wd (by kernel_rfl) (by kernel_rfl) ?_
    repeat (go_big_quiet_step ((first
        | (go_at_call 36; with_reducible exact Calls.wd_of (cF0 _))
        | (go_at_call 36; with_reducible exact Calls.wd_of (cF1 _))
        | (go_at_call 68; with_reducible exact Calls.wd_of (cG _)))))
    refine wpQuiet_nil ?_
    intro n1
    have B1 := B.step n1.h
    go_wp2_with fail
    go_ret
    exact ⟨HE.out.symm, B1⟩
  have HE := Lib.hid (ret_bool (show aslB (p, l, q) (p', l', q') = decide (squares (p, l, q) = squares (p', l', q')) by simp only [aslB, hf0, hf1, hf2, Bool.true_and]))
  go_enter Try.func40, Try.ntmps40
  go_wp2_with fail
  generalize ((W.alloc (.cells #[.int .i64 p, .slice a l.length cap, .slice c q.length capc] 47)).alloc (.cells #[.int .i64 p', .slice a' l'.length cap', .slice c' q'.length capc'] 47)) = u at *
  have b : Below u.heap.size u u.drew := (Below.refl _ _).drew
  have hz := b.size
  replace B := B.step b
  replace BX0 := Lib.hid (BX0.out.below b)
  replace BX1 := Lib.hid (BX1.out.below b)
  clear b
  have tk1 := True.intro
  have tk2 := True.intro
  have tk3 := True.intro
  have tk4 := True.intro
  have tk5 := True.intro
  have tk6 := True.intro
  go_region_held3 (fun w' => w'.cell? ⟨W.heap.size, 0, none⟩ = some (.int .i64 p) ∧ w'.cell? ⟨W.heap.size, 1, none⟩ = some (.slice a l.length cap) ∧ w'.cell? ⟨W.heap.size, 2, none⟩ = some (.slice c q.length capc) ∧ w'.cell? ⟨W.heap.size + 1, 0, none⟩ = some (.int .i64 p') ∧ w'.cell? ⟨W.heap.size + 1, 1, none⟩ = some (.slice a' l'.length cap') ∧ w'.cell? ⟨W.heap.size + 1, 2, none⟩ = some (.slice c' q'.length capc'))
    (with_reducible exact ⟨BX0.out.c0, BX0.out.c1, BX0.out.c2, BX1.out.c0, BX1.out.c1, BX1.out.c2⟩)
    (first
      | (clear tk1; go_at_call 36; refine (impl_IsFramework _ _ (p, l, q) (R0.out.below B) hsm0).mono ?_; rintro e w1 ⟨rfl, b⟩; have hz1 := b.size; replace B := B.step b; replace BX0 := Lib.hid (BX0.out.below b); replace BX1 := Lib.hid (BX1.out.below b); clear b; rw [hf0])
      | (clear tk2; go_at_call 36; refine (impl_IsFramework _ _ (p', l', q') (R1.out.below B) hsm1).mono ?_; rintro e w2 ⟨rfl, b⟩; have hz2 := b.size; replace B := B.step b; replace BX0 := Lib.hid (BX0.out.below b); replace BX1 := Lib.hid (BX1.out.below b); clear b; rw [hf1])
      | (clear tk3; go_at_call 68; refine (implEqG_any _ p p' a a' cap cap' l l' (G0.out.below B) (G1.out.below B) hsl).mono ?_; rintro e w3 ⟨rfl, b⟩; have hz3 := b.size; replace B := B.step b; replace BX0 := Lib.hid (BX0.out.below b); replace BX1 := Lib.hid (BX1.out.below b); clear b; rw [hf2])
      | (clear tk4; go_at_call 44; refine (impl_SquareLengths _ _ (p, l, q) (R0.out.below B) hsm0).mono ?_; rintro e w4 ⟨y4, rfl, o4, b⟩; have hz4 := b.size; replace B := B.step b; replace BX0 := Lib.hid (BX0.out.below b); replace BX1 := Lib.hid (BX1.out.below b); (first | replace s5 := s5.below b | skip); have s4 : IsInts w4 y4 (squares (p, l, q)) := o4.form; clear b o4)
      | (clear tk5; go_at_call 44; refine (impl_SquareLengths _ _ (p', l', q') (R1.out.below B) hsm1).mono ?_; rintro e w5 ⟨y5, rfl, o5, b⟩; have hz5 := b.size; replace B := B.step b; replace BX0 := Lib.hid (BX0.out.below b); replace BX1 := Lib.hid (BX1.out.below b); (first | replace s4 := s4.below b | skip); have s5 : IsInts w5 y5 (squares (p', l', q')) := o5.form; clear b o5)
      | (clear tk6; go_at_call 79; refine (slEqInts_is _ _ _ (squares (p, l, q)) (squares (p', l', q')) s4 s5 (by omega)).mono ?_; rintro e w6 ⟨rfl, b⟩; have hz6 := b.size; replace B := B.step b; replace BX0 := Lib.hid (BX0.out.below b); replace BX1 := Lib.hid (BX1.out.below b); clear b)
      | fail)
  all_goals
    go_wp2_with fail
    go_ret
    exact ⟨HE.out.symm, B⟩

theorem impl_AreSameLengths (W : World) (v0 : Value) (f : FwT) (h : IsFw W v0 f) (v1 : Value) (g : FwT) (h' : IsFw W v1 g) (hn : szFw f ≤ 1048576) (hn' : szFw g ≤ 1048576) :
    Calls Try.prog 40 #[v0, v1] W fun e w' => e = .returned (.bool (aslB f g)) ∧ Below W.heap.size W w' := by
  obtain ⟨p, l, q⟩ := f
  obtain ⟨a, cap, c, capc, rfl, hi, hj⟩ := h
  obtain ⟨p', l', q'⟩ := g
  obtain ⟨a', cap', c', capc', rfl, hi', hj'⟩ := h'
  exact implAsl_at _ _ _ _ _ _ _ _ hi hj hn _ _ _ _ _ _ _ hi' hj' hn'
end Go.Proofs.Ytjaaccdedffbcaa
