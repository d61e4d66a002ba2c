/- IsImplied of the program. -/
import Derived.Test.YtmfeabfbhaiaeaaRai
import Derived.Test.YtmfeabfbhaiaeaaIsf2
import Derived.BigRegion
namespace Go.Proofs.Ytmfeabfbhaiaeaa
open Go.RowKit
set_option maxRecDepth 100000
set_option linter.unusedVariables false
set_option linter.unusedSimpArgs false

def impB (g : GraphT) (a b : Int) : Bool := isGraphB g && (inB a 0 (g.1 - 1) && (inB b 0 (g.1 - 1) && (decide (a = b) || !decide (rk g.1.toNat g.2 < rk g.1.toNat (g.2 ++ [(min a b, max a b)])))))
theorem bok_graph {n : Nat} {l : List BarT} (h : isGraphB ((n : Int), l) = true) : Bok n l := by
  intro e he
  have := isGraphB_bar h (List.getElem?_eq_getElem he)
  unfold gB
  rw [List.getElem?_eq_getElem he]
  exact this
theorem bok_snoc {n : Nat} {l : List BarT} (h : Bok n l) {x y : Int} (h1 : 0 ≤ x) (h2 : x < y) (h3 : y < n) : Bok n (l ++ [(x, y)]) := by
  intro e he
  by_cases hl : e < l.length
  · have := h e hl
    unfold gB at this ⊢
    rw [List.getElem?_append_left hl]
    exact this
  · have e1 : e = l.length := by simp at he; omega
    subst e1
    unfold gB
    simp
    exact ⟨h1, h2, h3⟩

set_option maxHeartbeats 16000000 in
theorem implImp_at (W : World) (p : Int) (a : Option Addr) (cap : Nat) (l : List BarT) (h : BarsAt W a l.length l) (hs : l.length ≤ 1048576) (x y : Int) :
    Calls Try.prog 91 #[.agg #[.int .i64 p, .slice a l.length cap], .int .i64 x, .int .i64 y] W fun e w' => e = .returned (.bool (impB (p, l) x y)) ∧ Below W.heap.size W w' := by
  have hwd := @Wd.cells
  have HGr : Hid (IsGraph W (.agg #[.int .i64 p, .slice a l.length cap]) (p, l)) := Lib.hid ⟨a, cap, rfl, h⟩
  have H1 := Lib.hid h
  clear h
  have hsz : szGraph (p, l) ≤ 1048576 := hs
  have hsz2 : szGraph (p, l) ≤ 1099511627776 := Nat.le_trans hsz (by decide)
  have B : Below W.heap.size W (W.alloc (.cells #[.int .i64 p, .slice a l.length cap] 32)) := (Below.refl _ _).alloc (Nat.le_refl _) _
  have BG : Hid (BoxGr (W.alloc (.cells #[.int .i64 p, .slice a l.length cap] 32)) W.heap.size p a l.length cap) := Lib.hid (BoxGr.at rfl)
  have HIG := Lib.hid (fun w9 (b9 : Below ((W.alloc (.cells #[.int .i64 p, .slice a l.length cap] 32))).heap.size ((W.alloc (.cells #[.int .i64 p, .slice a l.length cap] 32))) w9) => implIsGraph_at w9 p a cap l (H1.out.below (B.step b9)) (by omega))
  have HRA := Lib.hid (fun w9 (b9 : Below ((W.alloc (.cells #[.int .i64 p, .slice a l.length cap] 32))).heap.size ((W.alloc (.cells #[.int .i64 p, .slice a l.length cap] 32))) w9) (n : Nat) (hpn : p = n) (hg : isGraphB (p, l) = true) (x1 x2 : Int) (h1 : 0 ≤ x1) (h2 : x1 < x2) (h3 : x2 < n) => raises_at w9 n (by have := isGraphB_bd hg; omega) a cap l (H1.out.below (B.step b9)) (by have := isGraphB_bd hg; omega) (bok_graph (by rw [hpn] at hg; exact hg)) x1 x2 (bok_snoc (bok_graph (by rw [hpn] at hg; exact hg)) h1 h2 h3))
  go_enter Try.func91, Try.ntmps91
  obtain ⟨zBG, fBG0, fBG1⟩ := BG.out
  cases hg : isGraphB (p, l)
  · have HE := Lib.hid (ret_bool (show impB (p, l) x y = false by simp [impB, hg]))
    rw [hg] at HIG
    clear hg HRA
    go_wp2_with fail
    refine wp_region_wd (by kernel_rfl) (by kernel_rfl) ?_
    repeat (go_big_quiet_step ((first | (go_at_call 48; exact Calls.wd_of (HIG.out _ (Wd.h _))))))
    refine wpQuiet_nil ?_
    intro n1
    have b9 := n1.h
    go_wp2_with fail
    go_ret
    exact ⟨HE.out.symm, B.step b9⟩
  have hbd := isGraphB_bd hg
  have HHX := Lib.hid (fun w9 => hasG_any w9 p a l.length cap x hbd.1.1 hbd.1.2)
  have HHY := Lib.hid (fun w9 => hasG_any w9 p a l.length cap y hbd.1.1 hbd.1.2)
  rw [hg] at HIG
  cases hx : inB x 0 (p - 1)
  · have HE := Lib.hid (ret_bool (show impB (p, l) x y = false by simp [impB, hx]))
    rw [hx] at HHX
    clear hg HRA hbd hx
    go_wp2_with fail
    refine wp_region_wd (by kernel_rfl) (by kernel_rfl) ?_
    repeat (go_big_quiet_step ((first | (go_at_call 48; exact Calls.wd_of (HIG.out _ (Wd.h _))) | (go_at_call 95; exact Calls.wd_of (HHX.out _)))))
    refine wpQuiet_nil ?_
    intro n1
    have b9 := n1.h
    go_wp2_with fail
    go_ret
    exact ⟨HE.out.symm, B.step b9⟩
  rw [hx] at HHX
  cases hy : inB y 0 (p - 1)
  · have HE := Lib.hid (ret_bool (show impB (p, l) x y = false by simp [impB, hy]))
    rw [hy] at HHY
    clear hg HRA hbd hx hy
    go_wp2_with fail
    refine wp_region_wd (by kernel_rfl) (by kernel_rfl) ?_
    repeat (go_big_quiet_step ((first | (go_at_call 48; exact Calls.wd_of (HIG.out _ (Wd.h _))) | (go_at_call 95; exact Calls.wd_of (HHX.out _)) | (go_at_call 95; exact Calls.wd_of (HHY.out _)))))
    refine wpQuiet_nil ?_
    intro n1
    have b9 := n1.h
    go_wp2_with fail
    go_ret
    exact ⟨HE.out.symm, B.step b9⟩
  rw [hy] at HHY
  by_cases hxy : x = y
  · subst hxy
    have HE := Lib.hid (ret_bool (show impB (p, l) x x = true by simp [impB, hg, hx]))
    clear hg HRA hbd hx hy
    go_wp2_with fail
    refine wp_region_wd (by kernel_rfl) (by kernel_rfl) ?_
    repeat (go_big_quiet_step ((first | (go_at_call 48; exact Calls.wd_of (HIG.out _ (Wd.h _))) | (go_at_call 95; exact Calls.wd_of (HHX.out _)) | (go_at_call 95; exact Calls.wd_of (HHY.out _)))))
    refine wpQuiet_nil ?_
    intro n1
    have b9 := n1.h
    go_wp2_with fail
    go_ret
    exact ⟨HE.out.symm, B.step b9⟩
  obtain ⟨n, rfl⟩ := Int.eq_ofNat_of_zero_le (show 0 ≤ p by omega)
  have q1 : 0 ≤ min x y ∧ min x y < max x y ∧ max x y < (n : Int) := by
    simp only [inB, Bool.and_eq_true, decide_eq_true_eq] at hx hy
    omega
  obtain ⟨r, hr⟩ : ∃ r, r = decide (rk n l < rk n (l ++ [(min x y, max x y)])) := ⟨_, rfl⟩
  have HR := Lib.hid (fun w9 b9 => HRA.out w9 b9 n rfl hg (min x y) (max x y) q1.1 q1.2.1 q1.2.2)
  rw [← hr] at HR
  have HE := Lib.hid (ret_bool (show impB ((n : Int), l) x y = !r by rw [hr]; simp [impB, hg, hx, hy, hxy]))
  have HBA := Lib.hid (bar_any x y)
  have hbe : (x == y) = false := by simp [hxy]
  clear hg HRA hbd hx hy hr q1
  go_wp2_with fail
  refine wp_region_wd (by kernel_rfl) (by kernel_rfl) ?_
  repeat (go_big_quiet_step ((first | (go_at_call 48; exact Calls.wd_of (HIG.out _ (Wd.h _))) | (go_at_call 95; exact Calls.wd_of (HHX.out _)) | (go_at_call 95; exact Calls.wd_of (HHY.out _)) | (go_at_call 65; exact Calls.wd_of (HBA.out _)) | (go_at_call 112; exact Calls.wd_of (HR.out _ (Wd.h _))))))
  refine wpQuiet_nil ?_
  intro n1
  have b9 := n1.h
  go_wp2_with fail
  go_ret
  exact ⟨HE.out.symm, B.step b9⟩
end Go.Proofs.Ytmfeabfbhaiaeaa
