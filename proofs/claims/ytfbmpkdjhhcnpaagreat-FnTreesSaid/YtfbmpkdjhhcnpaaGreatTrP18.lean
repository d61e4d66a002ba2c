/- Sets of bars: l5Set of the reference. No condition but sizes. -/
import Derived.Test.YtfbmpkdjhhcnpaaGreatTrP07
namespace Go.Proofs.YtfbmpkdjhhcnpaaGreat
open Go.RowKit
set_option maxRecDepth 100000
set_option linter.unusedVariables false
set_option linter.unusedSimpArgs false

set_option maxHeartbeats 4000000 in
theorem l5Set_at (W : World) (p : Int) (a : Option Addr) (cap : Nat) (l : List BarT) (h : BarsAt W a l.length l) (hs : l.length ≤ 1048576) (va : Option Addr) (n vcap : Nat) (s : List Int) (hv : IntsAt W va n s) (hvn : n ≤ 1048576) :
    Calls Tryz.prog 68 #[.agg #[.int .i64 p, .slice a l.length cap], .slice va n vcap] W fun e w' => e = .returned (.bool (setB (p, l) s)) ∧ Below W.heap.size W w' := by
  have hwd := @Wd.cells
  have HGr : Hid (IsGraph W (.agg #[.int .i64 p, .slice a l.length cap]) (p, l)) := Lib.hid ⟨a, cap, rfl, h⟩
  have H1 := Lib.hid h
  clear h
  have hsz : szGraph (p, l) ≤ 1048576 := hs
  have hsz2 : szGraph (p, l) ≤ 1099511627776 := Nat.le_trans hsz (by decide)
  have B : Below W.heap.size W (W.alloc (.cells #[.int .i64 p, .slice a l.length cap] 26)) := (Below.refl _ _).alloc (Nat.le_refl _) _
  have BG : Hid (BoxGr (W.alloc (.cells #[.int .i64 p, .slice a l.length cap] 26)) W.heap.size p a l.length cap) := Lib.hid (BoxGr.at rfl)
  obtain rfl := hv.1
  have HV := Lib.hid hv
  clear hv
  go_enter Tryz.func68, Tryz.ntmps68
  go_wp2_with fail
  generalize (W.alloc (.cells #[.int .i64 p, .slice a l.length cap] 26)) = u at *
  go_loopw [5] (fun i w9 => ∃ k : Nat, k ≤ s.length ∧ i = .int .i64 k ∧ (List.range k).all (setAt l.length s) = true ∧ Below u.heap.size u w9) (fun i _ => s.length - (intOf i).toNat)
  case atStart => exact ⟨0, Nat.zero_le _, rfl, by simp, Below.refl _ _⟩
  case round =>
    obtain ⟨k, hk, rfl, hall, hb⟩ := hrel
    have HA := Lib.hid hall
    clear hall
    have B1 := B.step hb
    have BG1 := Lib.hid (BG.out.below hb)
    obtain ⟨zBG, fBG0, fBG1⟩ := BG1.out
    by_cases hlt : k < s.length
    · obtain ⟨b, off, x, rfl, hbl, hx, hcell⟩ := (HV.out.below B1).2 k hlt
      have hki : (k : Int) < (s.length : Int) := by omega
      have p1 : (0 : Int) ≤ (k : Int) := by omega
      by_cases hx0 : x < 0
      · have HE := Lib.hid (ret_bool (setB_not (g := (p, l)) hlt (by simp only [setAt, hx, Option.getD_some, inB]; simp; omega)))
        have hd1 : decide (x < 0) = true := decide_eq_true hx0
        clear hx
        go_wp2_with fail
        go_quiet (fail)
        go_wp2_with fail
        go_ret
        exact ⟨HE.out.symm, drewN_below B1 _⟩
      have hd1 : decide (x < 0) = false := decide_eq_false hx0
      by_cases hxm : (l.length : Int) ≤ x
      · have HE := Lib.hid (ret_bool (setB_not (g := (p, l)) hlt (by simp only [setAt, hx, Option.getD_some, inB]; simp; omega)))
        have hd2 : decide ((l.length : Int) ≤ x) = true := decide_eq_true hxm
        clear hx
        go_wp2_with fail
        go_quiet (fail)
        go_wp2_with fail
        go_ret
        exact ⟨HE.out.symm, drewN_below B1 _⟩
      have hd2 : decide ((l.length : Int) ≤ x) = false := decide_eq_false hxm
      have hin : inB x 0 ((l.length : Int) - 1) = true := by simp [inB]; omega
      by_cases hk0 : k = 0
      · subst hk0
        have HK := Lib.hid (show setAt l.length s 0 = true by simp only [setAt, hx, Option.getD_some, hin]; rfl)
        simp only [Nat.add_zero] at hcell
        clear hx hin
        go_wp2_with fail
        go_quiet (fail)
        go_wp2_with fail
        go_roundw
        case rel => exact ⟨1, by omega, by go_num, range_all_succ (k := 0) (by simp) HK.out, drewN_below hb _⟩
        case measure => simp [intOf]; omega
      · obtain ⟨j, rfl⟩ : ∃ j, k = j + 1 := ⟨k - 1, by omega⟩
        obtain ⟨b', off', y, hab, hbl', hy, hcell'⟩ := (HV.out.below B1).2 j (by omega)
        simp only [Option.some.injEq, Addr.mk.injEq, and_true] at hab
        obtain ⟨rfl, rfl⟩ := hab
        have hw1 := IntWalk.i64_in (((j + 1 : Nat) : Int) - 1) (by omega)
        have hw2 : (((j + 1 : Nat) : Int) - 1) = (j : Int) := by omega
        have hk1 : decide ((0 : Int) < ((j + 1 : Nat) : Int)) = true := decide_eq_true (by omega)
        have hji : (j : Int) < (s.length : Int) := by omega
        have p2 : (0 : Int) ≤ (j : Int) := by omega
        have HS := Lib.hid (show setAt l.length s (j + 1) = decide (y < x) by simp only [setAt, hx, Nat.add_sub_cancel, hy, Option.getD_some, hin]; simp)
        clear hx hy hin
        by_cases hyx : y < x
        · have hd : decide (x ≤ y) = false := decide_eq_false (by omega)
          go_wp2_with fail
          go_quiet (fail)
          go_wp2_with fail
          go_roundw
          case rel => exact ⟨j + 1 + 1, by omega, by go_num, range_all_succ HA.out (by rw [HS.out]; exact decide_eq_true hyx), drewN_below hb _⟩
          case measure => simp [intOf]; omega
        · have hd : decide (x ≤ y) = true := decide_eq_true (by omega)
          have HE := Lib.hid (ret_bool (setB_not (g := (p, l)) hlt (by rw [HS.out]; exact decide_eq_false hyx)))
          go_wp2_with fail
          go_quiet (fail)
          go_wp2_with fail
          go_ret
          exact ⟨HE.out.symm, drewN_below B1 _⟩
    · obtain rfl : k = s.length := by omega
      have HE := Lib.hid (ret_bool (show setB (p, l) s = isGraphB (p, l) by have h := HA.out; simp only [setB, h, Bool.true_and]))
      go_wp2_with fail
      refine (spec_IsGraph_is _ _ (p, l) (HGr.out.below B1) hsz2).mono ?_
      rintro e w1 ⟨rfl, b⟩
      go_wp2_with fail
      go_ret
      exact ⟨HE.out.symm, B1.step b⟩
end Go.Proofs.YtfbmpkdjhhcnpaaGreat

