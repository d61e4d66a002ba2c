/- FreedomOf, IsRigid, IsMinimallyRigid of both sides. No condition but sizes. -/
import Derived.Test.YtfbmpkdjhhcnpaaGreatSnP15
import Derived.Lib.MinMax
import Derived.OwnWalk
namespace Go.Proofs.YtfbmpkdjhhcnpaaGreat
open Go.RowKit
set_option maxRecDepth 100000
set_option linter.unusedVariables false
set_option linter.unusedSimpArgs false
def freeG (g : GraphT) : Int := if isGraphB g = true then max 0 (2 * g.1 - 3) - rankG g 2 3 else -1
def minB (g : GraphT) : Bool := (freeG g == 0) && ((g.2.length : Int) == rankG g 2 3)
theorem rankG_bd {g : GraphT} (hg : isGraphB g = true) : -1 ≤ rankG g 2 3 ∧ rankG g 2 3 ≤ 1048576 := by
 obtain ⟨p, l⟩ := g
 obtain ⟨⟨h1, h2⟩, h3⟩ := isGraphB_bd hg
 unfold rankG
 split
 ·have hb : Bok p.toNat l := fun e he => by
   have := isGraphB_bar hg (List.getElem?_eq_getElem he)
   unfold gB
   rw [List.getElem?_eq_getElem he, Option.getD_some]
   omega
  have hI : Inv p.toNat 2 l l.length (playP p.toNat l 2 3) := playTo_ok (n := p.toNat) (k := 2) (l := 3) (bars := l) (by decide) hb (by omega) (by decide) l.length (Nat.le_refl _)
  dsimp only
  generalize playP p.toNat l 2 3 = S at *
  have key : ∀ j : Nat, j < S.2.2.length → (j : Int) ≤ gI S.2.2 j := by
   intro j
   induction j with
   | zero => intro hj; obtain ⟨e, he, _⟩ := hI.pl 0 hj; omega
   | succ j ih =>
    intro hj
    have h5 := ih (by omega)
    have h6 := hI.inc j hj
    omega
  rcases Nat.eq_zero_or_pos S.2.2.length with h0 | h0
  ·omega
  ·have h7 := key (S.2.2.length - 1) (by omega)
   obtain ⟨e, he, he2, _⟩ := hI.pl (S.2.2.length - 1) (by omega)
   omega
 ·omega
set_option maxHeartbeats 4000000 in
theorem specFree_at (W : World) (p : Int) (a : Option Addr) (cap : Nat) (l : List BarT) (h : BarsAt W a l.length l) (hs : l.length ≤ 1048576) : Calls Tryz.prog 121 #[.agg #[.int .i64 p, .slice a l.length cap]] W fun e w' => e = .returned (.int .i64 (freeG (p, l))) ∧ Below W.heap.size W w' := by
 have hwd := @Wd.cells
 have HGr : Hid (IsGraph W (.agg #[.int .i64 p, .slice a l.length cap]) (p, l)) := Lib.hid ⟨a, cap, rfl, h⟩
 have H1 := Lib.hid h
 clear h
 have hsz : szGraph (p, l) ≤ 1048576 := hs
 have hsz2 : szGraph (p, l) ≤ 1099511627776 := Nat.le_trans hsz (by decide)
 have B : Below W.heap.size W (W.alloc (.cells #[.int .i64 p, .slice a l.length cap] 26)) := (Below.refl _ _).alloc (Nat.le_refl _) _
 have BG : Hid (BoxGr (W.alloc (.cells #[.int .i64 p, .slice a l.length cap] 26)) W.heap.size p a l.length cap) := Lib.hid (BoxGr.at rfl)
 have HCG : Hid (∀ w1 : World, Below W.heap.size W w1 → Calls Tryz.prog 51 #[.agg #[.int .i64 p, .slice a l.length cap]] w1 fun e w' => e = .returned (.bool (isGraphB (p, l))) ∧ Below w1.heap.size w1 w') := Lib.hid fun w1 b => spec_IsGraph_is w1 _ (p, l) (HGr.out.below b) hsz2
 have HCR : Hid (∀ w1 : World, Below W.heap.size W w1 → Calls Tryz.prog 81 #[.agg #[.int .i64 p, .slice a l.length cap], .int .i64 2, .int .i64 3] w1 fun e w' => e = .returned (.int .i64 (rankG (p, l) 2 3)) ∧ Below w1.heap.size w1 w') := Lib.hid fun w1 b => specRank_at w1 p a cap l (H1.out.below b) hs 2 3
 go_enter Tryz.func121, Tryz.ntmps121
 go_wp2_with fail
 generalize (W.alloc (.cells #[.int .i64 p, .slice a l.length cap] 26)) = u at *
 obtain ⟨zBG, fBG0, fBG1⟩ := BG.out
 go_wp2_with fail
 clear zBG fBG0 fBG1
 refine (HCG.out _ B).mono ?_
 rintro e w1 ⟨rfl, b⟩
 have hz1 := b.size
 replace B := B.step b
 replace BG := Lib.hid (BG.out.below b)
 clear b
 cases hg : isGraphB (p, l)
 ·have HE : Hid (freeG (p, l) = -1) := Lib.hid (by unfold freeG; rw [hg]; rfl)
  go_wp2_with fail
  go_ret
  rw [HE.out]
  exact ⟨rfl, B⟩
 ·obtain ⟨⟨hg1, hg2⟩, hg3⟩ := isGraphB_bd hg
  have hrk := rankG_bd hg
  have HE : Hid (freeG (p, l) = max 0 (2 * p - 3) - rankG (p, l) 2 3) := Lib.hid (by unfold freeG; rw [hg]; rfl)
  generalize rankG (p, l) 2 3 = K at *
  have hmul := IntWalk.i64_in (2 * p) (by omega)
  have hsub := IntWalk.i64_in (2 * p - 3) (by omega)
  have hsb := IntWalk.i64_in (max 0 (2 * p - 3) - K) (by omega)
  have HCW := Lib.hid fun n : Wd w1 => HCR.out n.w (B.step n.h)
  clear hg
  obtain ⟨zBG, fBG0, fBG1⟩ := BG.out
  go_wp2_with fail
  refine wp_region_wd (by kernel_rfl) (by kernel_rfl) ?_
  repeat (go_big_quiet_step (first | (go_at_call 81; exact Calls.wd_of (HCW.out _))))
  refine wpQuiet_nil ?_
  intro n1
  have B := B.step n1.h
  go_wp2_with fail
  go_ret
  rw [HE.out]
  exact ⟨rfl, B⟩
set_option maxHeartbeats 4000000 in
theorem specRigid_at (W : World) (p : Int) (a : Option Addr) (cap : Nat) (l : List BarT) (h : BarsAt W a l.length l) (hs : l.length ≤ 1048576) : Calls Tryz.prog 80 #[.agg #[.int .i64 p, .slice a l.length cap]] W fun e w' => e = .returned (.bool (freeG (p, l) == 0)) ∧ Below W.heap.size W w' := by
 have hwd := @Wd.cells
 have HGr : Hid (IsGraph W (.agg #[.int .i64 p, .slice a l.length cap]) (p, l)) := Lib.hid ⟨a, cap, rfl, h⟩
 have H1 := Lib.hid h
 clear h
 have hsz : szGraph (p, l) ≤ 1048576 := hs
 have hsz2 : szGraph (p, l) ≤ 1099511627776 := Nat.le_trans hsz (by decide)
 have B : Below W.heap.size W (W.alloc (.cells #[.int .i64 p, .slice a l.length cap] 26)) := (Below.refl _ _).alloc (Nat.le_refl _) _
 have BG : Hid (BoxGr (W.alloc (.cells #[.int .i64 p, .slice a l.length cap] 26)) W.heap.size p a l.length cap) := Lib.hid (BoxGr.at rfl)
 have HCF : Hid (∀ w1 : World, Below W.heap.size W w1 → Calls Tryz.prog 121 #[.agg #[.int .i64 p, .slice a l.length cap]] w1 fun e w' => e = .returned (.int .i64 (freeG (p, l))) ∧ Below w1.heap.size w1 w') := Lib.hid fun w1 b => specFree_at w1 p a cap l (H1.out.below b) hs
 go_enter Tryz.func80, Tryz.ntmps80
 go_wp2_with fail
 generalize (W.alloc (.cells #[.int .i64 p, .slice a l.length cap] 26)) = u at *
 obtain ⟨zBG, fBG0, fBG1⟩ := BG.out
 go_wp2_with fail
 clear zBG fBG0 fBG1
 refine (HCF.out _ B).mono ?_
 rintro e w1 ⟨rfl, b⟩
 replace B := B.step b
 clear b
 go_wp2_with fail
 go_ret
 exact ⟨rfl, B⟩
set_option maxHeartbeats 4000000 in
theorem specMin_at (W : World) (p : Int) (a : Option Addr) (cap : Nat) (l : List BarT) (h : BarsAt W a l.length l) (hs : l.length ≤ 1048576) : Calls Tryz.prog 29 #[.agg #[.int .i64 p, .slice a l.length cap]] W fun e w' => e = .returned (.bool (minB (p, l))) ∧ Below W.heap.size W w' := by
 have hwd := @Wd.cells
 have HGr : Hid (IsGraph W (.agg #[.int .i64 p, .slice a l.length cap]) (p, l)) := Lib.hid ⟨a, cap, rfl, h⟩
 have H1 := Lib.hid h
 clear h
 have hsz : szGraph (p, l) ≤ 1048576 := hs
 have hsz2 : szGraph (p, l) ≤ 1099511627776 := Nat.le_trans hsz (by decide)
 have B : Below W.heap.size W (W.alloc (.cells #[.int .i64 p, .slice a l.length cap] 26)) := (Below.refl _ _).alloc (Nat.le_refl _) _
 have BG : Hid (BoxGr (W.alloc (.cells #[.int .i64 p, .slice a l.length cap] 26)) W.heap.size p a l.length cap) := Lib.hid (BoxGr.at rfl)
 have HCF : Hid (∀ n : Wd (W.alloc (.cells #[.int .i64 p, .slice a l.length cap] 26)), Calls Tryz.prog 80 #[.agg #[.int .i64 p, .slice a l.length cap]] n.w fun e w' => e = .returned (.bool (freeG (p, l) == 0)) ∧ Below n.w.heap.size n.w w') := Lib.hid fun n => specRigid_at n.w p a cap l (H1.out.below (B.step n.h)) hs
 have HCR : Hid (∀ n : Wd (W.alloc (.cells #[.int .i64 p, .slice a l.length cap] 26)), Calls Tryz.prog 81 #[.agg #[.int .i64 p, .slice a l.length cap], .int .i64 2, .int .i64 3] n.w fun e w' => e = .returned (.int .i64 (rankG (p, l) 2 3)) ∧ Below n.w.heap.size n.w w') := Lib.hid fun n => specRank_at n.w p a cap l (H1.out.below (B.step n.h)) hs 2 3
 have HE0 : Hid (minB (p, l) = ((freeG (p, l) == 0) && ((l.length : Int) == rankG (p, l) 2 3))) := Lib.hid rfl
 generalize rankG (p, l) 2 3 = K at *
 obtain ⟨zBG, fBG0, fBG1⟩ := BG.out
 cases hf : (freeG (p, l) == 0)
 ·have HE := Lib.hid (ret_bool (show minB (p, l) = false by rw [HE0.out, hf]; rfl))
  rw [hf] at HCF
  go_enter Tryz.func29, Tryz.ntmps29
  go_wp2_with fail
  refine wp_region_wd (by kernel_rfl) (by kernel_rfl) ?_
  repeat (go_big_quiet_step (first | (go_at_call 80; exact Calls.wd_of (HCF.out _))))
  refine wpQuiet_nil ?_
  intro n1
  have B := B.step n1.h
  go_wp2_with fail
  go_ret
  exact ⟨HE.out.symm, B⟩
 ·have HE := Lib.hid (ret_bool (show minB (p, l) = ((l.length : Int) == K) by rw [HE0.out, hf, Bool.true_and]))
  rw [hf] at HCF
  go_enter Tryz.func29, Tryz.ntmps29
  go_wp2_with fail
  refine wp_region_wd (by kernel_rfl) (by kernel_rfl) ?_
  repeat (go_big_quiet_step (first | (go_at_call 80; exact Calls.wd_of (HCF.out _)) | (go_at_call 81; exact Calls.wd_of (HCR.out _))))
  refine wpQuiet_nil ?_
  intro n1
  have B := B.step n1.h
  go_wp2_with fail
  go_ret
  exact ⟨by rw [HE.out]; rfl, B⟩
set_option maxHeartbeats 4000000 in
theorem implFree_at (W : World) (p : Int) (a : Option Addr) (cap : Nat) (l : List BarT) (h : BarsAt W a l.length l) (hs : l.length ≤ 1048576) : Calls Tryz.prog 146 #[.agg #[.int .i64 p, .slice a l.length cap]] W fun e w' => e = .returned (.int .i64 (freeG (p, l))) ∧ Below W.heap.size W w' := by
 have hwd := @Wd.cells
 have HGr : Hid (IsGraph W (.agg #[.int .i64 p, .slice a l.length cap]) (p, l)) := Lib.hid ⟨a, cap, rfl, h⟩
 have H1 := Lib.hid h
 clear h
 have hsz : szGraph (p, l) ≤ 1048576 := hs
 have hsz2 : szGraph (p, l) ≤ 1099511627776 := Nat.le_trans hsz (by decide)
 have B : Below W.heap.size W (W.alloc (.cells #[.int .i64 p, .slice a l.length cap] 26)) := (Below.refl _ _).alloc (Nat.le_refl _) _
 have BG : Hid (BoxGr (W.alloc (.cells #[.int .i64 p, .slice a l.length cap] 26)) W.heap.size p a l.length cap) := Lib.hid (BoxGr.at rfl)
 have HCG : Hid (∀ w1 : World, Below W.heap.size W w1 → Calls Tryz.prog 61 #[.agg #[.int .i64 p, .slice a l.length cap]] w1 fun e w' => e = .returned (.bool (isGraphB (p, l))) ∧ Below w1.heap.size w1 w') := Lib.hid fun w1 b => impl_IsGraph_is w1 _ (p, l) (HGr.out.below b) hsz2
 have HCR : Hid (∀ w1 : World, Below W.heap.size W w1 → Calls Tryz.prog 117 #[.agg #[.int .i64 p, .slice a l.length cap], .int .i64 2, .int .i64 3] w1 fun e w' => e = .returned (.int .i64 (rankG (p, l) 2 3)) ∧ Below w1.heap.size w1 w') := Lib.hid fun w1 b => implRank_at w1 p a cap l (H1.out.below b) hs 2 3
 go_enter Tryz.func146, Tryz.ntmps146
 go_wp2_with fail
 generalize (W.alloc (.cells #[.int .i64 p, .slice a l.length cap] 26)) = u at *
 obtain ⟨zBG, fBG0, fBG1⟩ := BG.out
 go_wp2_with fail
 clear zBG fBG0 fBG1
 refine (HCG.out _ B).mono ?_
 rintro e w1 ⟨rfl, b⟩
 have hz1 := b.size
 replace B := B.step b
 replace BG := Lib.hid (BG.out.below b)
 clear b
 cases hg : isGraphB (p, l)
 ·have HE : Hid (freeG (p, l) = -1) := Lib.hid (by unfold freeG; rw [hg]; rfl)
  go_wp2_with fail
  go_ret
  rw [HE.out]
  exact ⟨rfl, B⟩
 ·obtain ⟨⟨hg1, hg2⟩, hg3⟩ := isGraphB_bd hg
  have hrk := rankG_bd hg
  have HE : Hid (freeG (p, l) = max 0 (2 * p - 3) - rankG (p, l) 2 3) := Lib.hid (by unfold freeG; rw [hg]; rfl)
  generalize rankG (p, l) 2 3 = K at *
  have hmul := IntWalk.i64_in (2 * p) (by omega)
  have hsub := IntWalk.i64_in (2 * p - 3) (by omega)
  have hsb := IntWalk.i64_in (max 0 (2 * p - 3) - K) (by omega)
  have HCW := Lib.hid fun n : Wd w1 => HCR.out n.w (B.step n.h)
  clear hg
  obtain ⟨zBG, fBG0, fBG1⟩ := BG.out
  go_wp2_with fail
  refine wp_region_wd (by kernel_rfl) (by kernel_rfl) ?_
  repeat (go_big_quiet_step (first | (go_at_call 117; exact Calls.wd_of (HCW.out _))))
  refine wpQuiet_nil ?_
  intro n1
  have B := B.step n1.h
  go_wp2_with fail
  go_ret
  rw [HE.out]
  exact ⟨rfl, B⟩
set_option maxHeartbeats 4000000 in
theorem implRigid_at (W : World) (p : Int) (a : Option Addr) (cap : Nat) (l : List BarT) (h : BarsAt W a l.length l) (hs : l.length ≤ 1048576) : Calls Tryz.prog 116 #[.agg #[.int .i64 p, .slice a l.length cap]] W fun e w' => e = .returned (.bool (freeG (p, l) == 0)) ∧ Below W.heap.size W w' := by
 have hwd := @Wd.cells
 have HGr : Hid (IsGraph W (.agg #[.int .i64 p, .slice a l.length cap]) (p, l)) := Lib.hid ⟨a, cap, rfl, h⟩
 have H1 := Lib.hid h
 clear h
 have hsz : szGraph (p, l) ≤ 1048576 := hs
 have hsz2 : szGraph (p, l) ≤ 1099511627776 := Nat.le_trans hsz (by decide)
 have B : Below W.heap.size W (W.alloc (.cells #[.int .i64 p, .slice a l.length cap] 26)) := (Below.refl _ _).alloc (Nat.le_refl _) _
 have BG : Hid (BoxGr (W.alloc (.cells #[.int .i64 p, .slice a l.length cap] 26)) W.heap.size p a l.length cap) := Lib.hid (BoxGr.at rfl)
 have HCF : Hid (∀ w1 : World, Below W.heap.size W w1 → Calls Tryz.prog 146 #[.agg #[.int .i64 p, .slice a l.length cap]] w1 fun e w' => e = .returned (.int .i64 (freeG (p, l))) ∧ Below w1.heap.size w1 w') := Lib.hid fun w1 b => implFree_at w1 p a cap l (H1.out.below b) hs
 go_enter Tryz.func116, Tryz.ntmps116
 go_wp2_with fail
 generalize (W.alloc (.cells #[.int .i64 p, .slice a l.length cap] 26)) = u at *
 obtain ⟨zBG, fBG0, fBG1⟩ := BG.out
 go_wp2_with fail
 clear zBG fBG0 fBG1
 refine (HCF.out _ B).mono ?_
 rintro e w1 ⟨rfl, b⟩
 replace B := B.step b
 clear b
 go_wp2_with fail
 go_ret
 exact ⟨rfl, B⟩
set_option maxHeartbeats 4000000 in
theorem implMin_at (W : World) (p : Int) (a : Option Addr) (cap : Nat) (l : List BarT) (h : BarsAt W a l.length l) (hs : l.length ≤ 1048576) : Calls Tryz.prog 75 #[.agg #[.int .i64 p, .slice a l.length cap]] W fun e w' => e = .returned (.bool (minB (p, l))) ∧ Below W.heap.size W w' := by
 have hwd := @Wd.cells
 have HGr : Hid (IsGraph W (.agg #[.int .i64 p, .slice a l.length cap]) (p, l)) := Lib.hid ⟨a, cap, rfl, h⟩
 have H1 := Lib.hid h
 clear h
 have hsz : szGraph (p, l) ≤ 1048576 := hs
 have hsz2 : szGraph (p, l) ≤ 1099511627776 := Nat.le_trans hsz (by decide)
 have B : Below W.heap.size W (W.alloc (.cells #[.int .i64 p, .slice a l.length cap] 26)) := (Below.refl _ _).alloc (Nat.le_refl _) _
 have BG : Hid (BoxGr (W.alloc (.cells #[.int .i64 p, .slice a l.length cap] 26)) W.heap.size p a l.length cap) := Lib.hid (BoxGr.at rfl)
 have HCF : Hid (∀ n : Wd (W.alloc (.cells #[.int .i64 p, .slice a l.length cap] 26)), Calls Tryz.prog 116 #[.agg #[.int .i64 p, .slice a l.length cap]] n.w fun e w' => e = .returned (.bool (freeG (p, l) == 0)) ∧ Below n.w.heap.size n.w w') := Lib.hid fun n => implRigid_at n.w p a cap l (H1.out.below (B.step n.h)) hs
 have HCR : Hid (∀ n : Wd (W.alloc (.cells #[.int .i64 p, .slice a l.length cap] 26)), Calls Tryz.prog 117 #[.agg #[.int .i64 p, .slice a l.length cap], .int .i64 2, .int .i64 3] n.w fun e w' => e = .returned (.int .i64 (rankG (p, l) 2 3)) ∧ Below n.w.heap.size n.w w') := Lib.hid fun n => implRank_at n.w p a cap l (H1.out.below (B.step n.h)) hs 2 3
 have HE0 : Hid (minB (p, l) = ((freeG (p, l) == 0) && ((l.length : Int) == rankG (p, l) 2 3))) := Lib.hid rfl
 generalize rankG (p, l) 2 3 = K at *
 obtain ⟨zBG, fBG0, fBG1⟩ := BG.out
 cases hf : (freeG (p, l) == 0)
 ·have HE := Lib.hid (ret_bool (show minB (p, l) = false by rw [HE0.out, hf]; rfl))
  rw [hf] at HCF
  go_enter Tryz.func75, Tryz.ntmps75
  go_wp2_with fail
  refine wp_region_wd (by kernel_rfl) (by kernel_rfl) ?_
  repeat (go_big_quiet_step (first | (go_at_call 116; exact Calls.wd_of (HCF.out _))))
  refine wpQuiet_nil ?_
  intro n1
  have B := B.step n1.h
  go_wp2_with fail
  go_ret
  exact ⟨HE.out.symm, B⟩
 ·have HE := Lib.hid (ret_bool (show minB (p, l) = (K == (l.length : Int)) by rw [HE0.out, hf, Bool.true_and]; rw [Bool.eq_iff_iff, beq_iff_eq, beq_iff_eq]; exact eq_comm))
  rw [hf] at HCF
  go_enter Tryz.func75, Tryz.ntmps75
  go_wp2_with fail
  refine wp_region_wd (by kernel_rfl) (by kernel_rfl) ?_
  repeat (go_big_quiet_step (first | (go_at_call 116; exact Calls.wd_of (HCF.out _)) | (go_at_call 117; exact Calls.wd_of (HCR.out _))))
  refine wpQuiet_nil ?_
  intro n1
  have B := B.step n1.h
  go_wp2_with fail
  go_ret
  exact ⟨by rw [HE.out]; rfl, B⟩
end Go.Proofs.YtfbmpkdjhhcnpaaGreat

